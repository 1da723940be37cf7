/- Volumes: both sides are the same plain functions. Conditions: each theorem's own hypotheses. -/
import Derived.Test.YtklmgcjamifmaaaGreatDoorEVp
set_option linter.unusedVariables false
set_option linter.unusedSimpArgs false
namespace Go.LM.Vg
theorem l1In_eq(x a b:Int):spec_l1In (x,a,b,())=some (inR x a b,()):=by
 show spec_l1In_s x a b=_
 unfold spec_l1In_s inR
 by_cases h:a≤x <;> simp [h]
theorem within_eq(x a b:Int):impl_within (x,a,b,())=some (inR x a b,()):=by
 show impl_within_s x a b=_
 unfold impl_within_s inR
 by_cases h:a≤x <;> simp [h]
theorem w64_sm{a:Int}(h : -4000000000000000000≤a)(h':a≤4000000000000000000):w64 a=a:=w64_in (by omega) (by omega)
def allN(n:Nat)(P:Nat→Bool):Bool:=(List.range n).all P
theorem allN_iff{n:Nat}{P:Nat→Bool} : allN n P=true↔∀i,i<n→P i=true:=by simp [allN,List.all_eq_true]
open Classical in
theorem allL(n:Nat)(hn:n≤4611686018427387904)(P:Nat→Bool)(E:Bool)(L:Nat→Int→Option (Bool×Unit))
  (h0:∀m,(∀j,j<n→P j=true)→L (m+1) (n:Int)=some (E,()))
  (hs:∀m (i:Nat),i<n→(∀j,j<i→P j=true)→w64 ((i:Int)+1)=(i:Int)+1→L (m+1) (i:Int)=cond (P i) (L m ((i:Int)+1)) (some (false,())))
  (q:Nat:=BIG) (hq:n<q:=by exact big_gt (by omega)):L q 0=some (allN n P&&E,()):=by
 have:=lpI n hn L (fun i=>some (decide (∀j,i≤j→j<n→P j=true)&&E,())) (fun i=>∀j,j<i→P j=true) (fun m hi=>by
  rw [h0 m hi]
  rw [decide_eq_true (by intro j h1 h2;omega)];rfl) (fun m i hi hinv hw ih=>by
  rw [hs m i hi hinv hw]
  cases hp:P i
  ·simp only [cond_false]
   rw [decide_eq_false (fun h=>by have:=h i (Nat.le_refl _) hi;rw [hp] at this;cases this)];rfl
  ·simp only [cond_true]
   rw [ih (fun j hj=>by
    by_cases h:j=i
    ·subst h;exact hp
    ·exact hinv j (by omega))]
   congr 3
   apply decide_eq_decide.2
   constructor
   ·intro h j h1 h2
    by_cases hji:j=i
    ·subst hji;exact hp
    ·exact h j (by omega) h2
   ·intro h j h1 h2;exact h j (by omega) h2) n 0 q (by omega) hq (by intro j hj;omega)
 rw [Int.natCast_zero] at this
 rw [this]
 congr 3
 rw [Bool.eq_iff_iff,allN_iff,decide_eq_true_eq]
 exact⟨fun h i hi=>h i (by omega) hi,fun h i _ hi=>h i hi⟩
theorem cond_not'{α : Type}(a:Bool)(x y : α):cond (!a) x y=cond a y x:=by cases a <;> rfl
theorem cond_and'{α : Type}(a b:Bool)(x y : α):cond (a&&b) x y=cond a (cond b x y) y:=by cases a <;> rfl
theorem cond_or'{α : Type}(a b:Bool)(x y : α):cond (a||b) x y=cond a x (cond b x y):=by cases a <;> rfl
theorem prev_ix{n i:Nat}(h:i+1<n)(hn:n≤4000000000000000000):ix n (w64 (((i+1:Nat):Int)-1))=some i:=by
 rw [w64_sm (by omega) (by omega),show((i+1:Nat):Int)-1=(i:Int) by omega,ix_nat (by omega)]
theorem gt0_f:decide (((0:Nat):Int)>0)=false:=rfl
theorem gt0_t(i:Nat):decide (((i+1:Nat):Int)>0)=true:=by simp
def callOk(c:tCall.D):Bool :=
 inR c.1 1 22&&decide ((c.2.1.length:Int)≤60)&&decide ((c.2.2.1.length:Int)≤60)&&decide ((c.2.2.2.2.2.1.length:Int)≤64)&&inR c.2.2.2.1 (-1000000) 1000000&&inR c.2.2.2.2.1 (-1000000) 1000000 &&
  (eqS c.2.2.1 []||(c.1==9||(c.1==10||c.1==12)))&&(eqS c.2.2.2.2.2.1 []||(c.1==5||c.1==6))
theorem spec_CallOk_eq(c:tCall.D):spec_CallOk (c,())=some (callOk c,()):=by
 obtain ⟨q,hq,_⟩:=big_pred 1
 show spec_CallOk_s (spec_CallOk_L5 BIG) c=_
 rw [hq]
 unfold spec_CallOk_s
 simp only [spec_CallOk_L5,spec_CallOk_b5,l1In_eq,obs,cond_some]
 congr 2
 simp only [callOk,inR,eqS_nil]
 generalize c.2.1.length=a
 generalize c.2.2.1.length=b
 generalize c.2.2.2.2.2.1.length=d
 generalize c.1=k
 generalize c.2.2.2.1=e
 generalize c.2.2.2.2.1=f
 simp only [cond_not',cond_and',cond_or']
 rw [Bool.eq_iff_iff]
 simp only [Bool.cond_eq_ite,Bool.ite_eq_true_distrib,Bool.and_eq_true,Bool.or_eq_true,decide_eq_true_eq,beq_iff_eq,bne_iff_ne]
 grind (splits:=40)
theorem impl_CallOk_eq(c:tCall.D):impl_CallOk (c,())=some (callOk c,()):=by
 obtain ⟨q,hq,_⟩:=big_pred 2
 show impl_CallOk_s (impl_CallOk_L BIG) c=_
 rw [hq]
 unfold impl_CallOk_s
 simp only [impl_CallOk_L,iterK,impl_CallOk_N,impl_CallOk_b3,impl_CallOk_b5,within_eq,obs,cond_some]
 congr 2
 simp only [callOk,inR,eqS_nil]
 generalize c.2.1.length=a
 generalize c.2.2.1.length=b
 generalize c.2.2.2.2.2.1.length=d
 generalize c.1=k
 generalize c.2.2.2.1=e
 generalize c.2.2.2.2.1=f
 rw [Bool.eq_iff_iff]
 simp only [Bool.cond_eq_ite,Bool.ite_eq_true_distrib,Bool.and_eq_true,Bool.or_eq_true,decide_eq_true_eq,beq_iff_eq,bne_iff_ne]
 grind (splits:=60)
def fnd(n:Nat)(P:Nat→Bool):Option Nat:=(List.range n).find? P
theorem fnd_some{n i:Nat}{P:Nat→Bool} : fnd n P=some i↔i<n∧P i=true∧∀j,j<i→P j=false:=by
 unfold fnd
 rw [List.find?_range_eq_some]
 constructor
 ·rintro ⟨h1,h2,h3⟩;exact⟨by simpa using h2,h1,fun j hj=>by simpa using h3 j hj⟩
 ·rintro ⟨h1,h2,h3⟩;exact⟨h2,by simpa using h1,fun j hj=>by simpa using h3 j hj⟩
theorem fnd_none{n:Nat}{P:Nat→Bool} : fnd n P=none↔∀i,i<n→P i=false:=by
 unfold fnd
 rw [List.find?_eq_none]
 simp
theorem fndL{β : Type}(n:Nat)(hn:n≤4611686018427387904)(P:Nat→Bool)(R:Option Nat → β)(L:Nat→Int → β)
  (h0:∀m,L (m+1) (n:Int)=R none)
  (hs:∀m (i:Nat),i<n→w64 ((i:Int)+1)=(i:Int)+1→L (m+1) (i:Int)=cond (P i) (R (some i)) (L m ((i:Int)+1))) (q:Nat:=BIG) (hq:n<q:=by exact big_gt (by omega)) :
  L q 0=R (fnd n P):=by
 have key:=lpI n hn L (fun i=>R (fnd n P)) (fun i=>∀j,j<i→P j=false) (fun m hi=>by rw [h0 m,fnd_none.2 hi]) (fun m i hi hinv hw ih=>by
  rw [hs m i hi hw]
  cases hp:P i
  ·simp only [cond_false]
   refine ih fun j hj=>?_
   by_cases h:j=i
   ·subst h;exact hp
   ·exact hinv j (by omega)
  ·simp only [cond_true]
   rw [fnd_some.2 ⟨hi,hp,hinv⟩]) n 0 q (by omega) hq (by intro j hj;omega)
 simpa using key
def optI:Option Nat→Int
 | none => -1
 | some i=>i
theorem optI_neg{o:Option Nat} : decide (optI o<0)=o.isNone:=by
 cases o with
 | none=>rfl
 | some i=>exact decide_eq_false (by show ¬((i:Int)<0);omega)
theorem optI_ge{o:Option Nat} : decide (optI o≥0)=o.isSome:=by cases o <;> simp [optI]
theorem contains_eq(l:List Int)(x:Int)(hl:l.length≤4611686018427387904):slices_Contains_int_int (l,x,())=some (decide (x∈l),()):=by
 show slices_Contains_int_int_s l x=_
 unfold slices_Contains_int_int_s
 have h:slices_Index_int_int (l,x,())=some (optI (fnd l.length (fun i=>x==gd (.int .i64) l i)),()):=by
  show slices_Index_int_int_s (slices_Index_int_int_L2 BIG) l x=_
  unfold slices_Index_int_int_s
  refine fndL l.length hl _ (fun o=>some (optI o,())) (fun m i=>slices_Index_int_int_L2 m l x (l.length:Int) i) ?_ ?_
  ·intro m
   simp only [slices_Index_int_int_L2,slices_Index_int_int_b2]
   rw [lt_f (Nat.le_refl _)];rfl
  ·intro m i hi hw
   simp only [slices_Index_int_int_L2,slices_Index_int_int_b2,hw]
   rw [lt_t hi,ix_nat hi];rfl
 rw [h]
 simp only [obs,optI_ge]
 congr 2
 rw [Bool.eq_iff_iff,decide_eq_true_eq,Option.isSome_iff_exists]
 constructor
 ·rintro ⟨i,hi⟩
  obtain ⟨h1,h2,_⟩:=fnd_some.1 hi
  have h2:x=gd (.int .i64) l i:=by simpa using h2
  rw [h2,gd_eq h1];exact List.getElem_mem h1
 ·intro hx
  obtain ⟨i,hi,he⟩:=List.mem_iff_getElem.1 hx
  cases hf:fnd l.length (fun i=>x==gd (.int .i64) l i) with
  | some j=>exact⟨j,rfl⟩
  | none =>
   have:=fnd_none.1 hf i hi
   have hg:gd (.int .i64) l i=l[i]:=gd_eq (t:=.int .i64) hi
   rw [hg,he] at this
   simp at this
def byteOk(b:Int):Bool:=decide (b≥97)&&decide (b≤122)||decide (b≥48)&&decide (b≤57)||b==46||b==95||b==45
theorem spec_Byte_eq(b:Int):spec_l2Byte (b,())=some (byteOk b,()):=by
 show spec_l2Byte_s b=_
 unfold spec_l2Byte_s byteOk
 simp only [cond_some]
 congr 2
 rw [Bool.eq_iff_iff]
 simp only [Bool.cond_eq_ite,Bool.ite_eq_true_distrib,Bool.and_eq_true,Bool.or_eq_true,decide_eq_true_eq,beq_iff_eq]
 grind
theorem impl_Byte_eq(b:Int):impl_isNameByte (b,())=some (byteOk b,()):=by
 show impl_isNameByte_s b=_
 rw [← spec_Byte_eq];rfl
def nb(s:List UInt8)(i:Nat):Int:=((s.getD i 0).toNat:Int)
def nameOk(s:List UInt8):Bool:=allN s.length (fun i=>byteOk (nb s i))&&(inR (s.length:Int) 1 8&&(!eqS s [46] && !eqS s [46,46]))
theorem spec_NameOk_eq(s:List UInt8):spec_NameOk (s,())=some (nameOk s,()):=by
 show spec_NameOk_s (spec_NameOk_L4 BIG) s=_
 unfold spec_NameOk_s
 simp only [l1In_eq,obs]
 by_cases hl:inR (s.length:Int) 1 8=true
 case neg=>rw [Bool.not_eq_true] at hl;unfold nameOk;rw [hl];simp
 have hb:=inR_iff.1 hl
 have hk:spec_NameOk_L4 BIG s 0=some (allN s.length (fun i=>byteOk (nb s i))&&true,()):=by
  refine allL s.length (by omega) _ true (fun m i=>spec_NameOk_L4 m s i) ?_ ?_
  ·intro m _
   simp only [spec_NameOk_L4,spec_NameOk_b4]
   rw [lt_f (Nat.le_refl _)];rfl
  ·intro m i hi _ hw
   simp only [spec_NameOk_L4,spec_NameOk_b4,hw]
   rw [lt_t hi,ix_nat hi]
   simp only [cond_true,obs,spec_Byte_eq,cond_not'];rfl
 rw [hk,hl]
 unfold nameOk
 rw [hl]
 cases eqS s [46] <;> cases eqS s [46,46] <;> simp
theorem impl_NameOk_eq(s:List UInt8)(hl:s.length≤4000000000000000000):impl_NameOk (s,())=some (nameOk s,()):=by
 show impl_NameOk_s (impl_NameOk_L2 BIG) s=_
 unfold impl_NameOk_s nameOk
 refine allL s.length (by omega) _ _ (fun m i=>impl_NameOk_L2 m s (s.length:Int) i) ?_ ?_
 ·intro m _
  simp only [impl_NameOk_L2,impl_NameOk_b2]
  rw [lt_f (Nat.le_refl _)]
  simp only [within_eq,obs,cond_false,cond_some]
  congr 2
  cases inR (s.length:Int) 1 8 <;> cases eqS s [46] <;> rfl
 ·intro m i hi _ hw
  simp only [impl_NameOk_L2,impl_NameOk_b2,hw]
  rw [lt_t hi,ix_nat hi]
  simp only [cond_true,obs,impl_Byte_eq,cond_not'];rfl
def targetOk(s:List UInt8):Bool:=allN s.length (fun i=>nb s i==47||byteOk (nb s i))&&inR (s.length:Int) 1 60
theorem spec_Target_eq(s:List UInt8):spec_l4Target (s,())=some (targetOk s,()):=by
 show spec_l4Target_s (spec_l4Target_L4 BIG) s=_
 unfold spec_l4Target_s
 simp only [l1In_eq,obs]
 by_cases hl:inR (s.length:Int) 1 60=true
 case neg=>rw [Bool.not_eq_true] at hl;unfold targetOk;rw [hl];simp
 have hb:=inR_iff.1 hl
 unfold targetOk
 rw [hl]
 simp only [Bool.not_true,cond_false]
 refine allL s.length (by omega) _ true (fun m i=>spec_l4Target_L4 m s i) ?_ ?_
 ·intro m _
  simp only [spec_l4Target_L4,spec_l4Target_b4]
  rw [lt_f (Nat.le_refl _)];rfl
 ·intro m i hi _ hw
  simp only [spec_l4Target_L4,spec_l4Target_b4,hw]
  rw [lt_t hi,ix_nat hi]
  simp only [cond_true,obs,spec_Byte_eq,cond_not',cond_or',bne];rfl
theorem impl_Target_eq(s:List UInt8)(hl:s.length≤4000000000000000000):impl_isTarget (s,())=some (targetOk s,()):=by
 show impl_isTarget_s (impl_isTarget_L2 BIG) s=_
 unfold impl_isTarget_s targetOk
 refine allL s.length (by omega) _ _ (fun m i=>impl_isTarget_L2 m s (s.length:Int) i) ?_ ?_
 ·intro m _
  simp only [impl_isTarget_L2,impl_isTarget_b2]
  rw [lt_f (Nat.le_refl _)]
  simp only [within_eq,obs,cond_false]
 ·intro m i hi _ hw
  simp only [impl_isTarget_L2,impl_isTarget_b2,hw]
  rw [lt_t hi,ix_nat hi]
  simp only [cond_true,obs,impl_Byte_eq,cond_not',cond_or',bne];rfl
abbrev Ino:Type:=tInode.D
def nmsOf(x:Ino):List tDirent.D:=x.2.2.2.2.2.2.1
def dataOf(x:Ino):List UInt8:=x.2.2.2.2.2.1
def iat(l:List Ino)(id:Int):Option Nat:=fnd l.length (fun i=>(gd tInode l i).1==id)
theorem spec_At_eq(v:tVol.D)(id:Int)(hl:v.2.1.length≤1048576):spec_l4At (v,id,())=some (optI (iat v.2.1 id),()):=by
 show spec_l4At_s (spec_l4At_L2 BIG) v id=_
 unfold spec_l4At_s iat
 refine fndL v.2.1.length (by omega) _ (fun o=>some (optI o,())) (fun m i=>spec_l4At_L2 m id i v) ?_ ?_
 ·intro m
  simp only [spec_l4At_L2,spec_l4At_b2]
  rw [lt_f (Nat.le_refl _)];rfl
 ·intro m i hi hw
  simp only [spec_l4At_L2,spec_l4At_b2,hw]
  rw [lt_t hi,ix_nat hi];rfl
def inoR(l:List Ino):Option Nat→List Ino
 | none=>[]
 | some i=>[gd tInode l i]
theorem impl_inode_eq(v:tVol.D)(id:Int)(hl:v.2.1.length≤1048576):impl_Vol_inode (v,id,())=some (inoR v.2.1 (iat v.2.1 id),()):=by
 show impl_Vol_inode_s (impl_Vol_inode_L2 BIG) v id=_
 unfold impl_Vol_inode_s iat
 refine fndL v.2.1.length (by omega) _ (fun o=>some (inoR v.2.1 o,())) (fun m i=>impl_Vol_inode_L2 m v id (v.2.1.length:Int) i) ?_ ?_
 ·intro m
  simp only [impl_Vol_inode_L2,impl_Vol_inode_b2]
  rw [lt_f (Nat.le_refl _)];rfl
 ·intro m i hi hw
  simp only [impl_Vol_inode_L2,impl_Vol_inode_b2,hw]
  rw [lt_t hi,ix_nat hi];rfl
theorem iat_lt{l:List Ino}{id:Int}{i:Nat}(h:iat l id=some i):i<l.length∧(gd tInode l i).1=id:=by
 obtain ⟨h1,h2,_⟩:=fnd_some.1 h
 exact⟨h1,by simpa using h2⟩
def bytesOf(l:List Ino):Nat:=(l.map fun x=>(dataOf x).length).sum
theorem sum_drop{l:List Ino}{i:Nat}(hi:i<l.length):bytesOf (l.drop i)=(dataOf (gd tInode l i)).length+bytesOf (l.drop (i+1)):=by
 rw [drop_cons (t:=tInode) hi];rfl
theorem bytes_drop(l:List Ino)(i:Nat):bytesOf (l.take i)+bytesOf (l.drop i)=bytesOf l:=by
 unfold bytesOf
 rw [← List.sum_append_nat,← List.map_append,List.take_append_drop]
theorem bytes_take{l:List Ino}{i:Nat}(hi:i<l.length):bytesOf (l.take (i+1))=bytesOf (l.take i) +(dataOf (gd tInode l i)).length:=by
 have h1:=bytes_drop l i
 have h2:=bytes_drop l (i+1)
 have h3:=sum_drop hi
 omega
theorem bytes_le(l:List Ino)(i:Nat):bytesOf (l.take i)≤bytesOf l:=by have:=bytes_drop l i;omega
theorem spec_Bytes_eq(v:tVol.D)(hl:v.2.1.length≤1048576)(hb:bytesOf v.2.1≤1048576):spec_l4Bytes (v,())=some ((bytesOf v.2.1:Int),()):=by
 show spec_l4Bytes_s (spec_l4Bytes_L3 BIG) v=_
 unfold spec_l4Bytes_s
 have:=lpI v.2.1.length (by omega) (fun m i=>spec_l4Bytes_L3 m (bytesOf (v.2.1.take i.toNat):Int) i v) (fun _=>some ((bytesOf v.2.1:Int),())) (fun _=>True) (fun m _=>by
  simp only [spec_l4Bytes_L3,spec_l4Bytes_b3]
  rw [lt_f (Nat.le_refl _)]
  simp only [Int.toNat_natCast,List.take_length,cond_false]) (fun m i hi _ hw ih=>by
  simp only [spec_l4Bytes_L3,spec_l4Bytes_b3,hw]
  rw [lt_t hi,ix_nat hi]
  simp only [cond_true,obs,Int.toNat_natCast]
  have ih:=ih trivial
  rw [show((i:Int)+1).toNat=i+1 by omega,bytes_take hi,Int.natCast_add] at ih
  have h2:=bytes_le v.2.1 (i+1)
  rw [bytes_take hi] at h2
  rw [w64_sm (by omega) (by have:((gd tInode v.2.1 i).2.2.2.2.2.1).length=(dataOf (gd tInode v.2.1 i)).length:=rfl;omega)]
  exact ih) v.2.1.length 0 BIG (by omega) (big_gt (by omega)) trivial
 simpa [bytesOf] using this
theorem impl_total_eq(v:tVol.D)(hl:v.2.1.length≤1048576)(hb:bytesOf v.2.1≤1048576):impl_Vol_total (v,())=some ((bytesOf v.2.1:Int),()):=by
 show impl_Vol_total_s (impl_Vol_total_L3 BIG) v=_
 unfold impl_Vol_total_s
 have:=lpI v.2.1.length (by omega) (fun m i=>impl_Vol_total_L3 m (bytesOf (v.2.1.take i.toNat):Int) v.2.1 (v.2.1.length:Int) i) (fun _=>some ((bytesOf v.2.1:Int),())) (fun _=>True) (fun m _=>by
  simp only [impl_Vol_total_L3,impl_Vol_total_b3]
  rw [lt_f (Nat.le_refl _)]
  simp only [Int.toNat_natCast,List.take_length,cond_false]) (fun m i hi _ hw ih=>by
  simp only [impl_Vol_total_L3,impl_Vol_total_b3,hw]
  rw [lt_t hi,ix_nat hi]
  simp only [cond_true,obs,Int.toNat_natCast]
  have ih:=ih trivial
  rw [show((i:Int)+1).toNat=i+1 by omega,bytes_take hi,Int.natCast_add] at ih
  have h2:=bytes_le v.2.1 (i+1)
  rw [bytes_take hi] at h2
  rw [w64_sm (by omega) (by have:((gd tInode v.2.1 i).2.2.2.2.2.1).length=(dataOf (gd tInode v.2.1 i)).length:=rfl;omega)]
  exact ih) v.2.1.length 0 BIG (by omega) (big_gt (by omega)) trivial
 simpa [bytesOf] using this
def Ev{β : Type}(f:Nat → β)(B:Nat)(y : β):Prop:=∀m,B≤m→f m=y
theorem Ev.step{β : Type}{f g:Nat → β}{B:Nat}{y : β}(h:Ev g B y)(hf:∀m,f (m+1)=g m):Ev f (B+1) y:=by
 intro m hm
 obtain ⟨k,rfl⟩:∃k,m=k+1:=⟨m-1,by omega⟩
 rw [hf];exact h k (by omega)
theorem Ev.done{β : Type}{f:Nat → β}{y : β}(hf:∀m,f (m+1)=y):Ev f 1 y:=by
 intro m hm
 obtain ⟨k,rfl⟩:∃k,m=k+1:=⟨m-1,by omega⟩
 exact hf k
theorem Ev.mono{β : Type}{f:Nat → β}{B B':Nat}{y : β}(h:Ev f B y)(hb:B≤B'):Ev f B' y:=fun m hm=>h m (by omega)
def foldN{σ : Type} : Nat→(Nat → σ → σ) → σ → σ
 | 0,_,s=>s
 | n+1,f,s=>f n (foldN n f s)
theorem foldN_inv{σ : Type}{n:Nat}{f:Nat → σ → σ}(Inv:Nat → σ → Prop)(hI:∀i s,i<n→Inv i s→Inv (i+1) (f i s)){s : σ}(h:Inv 0 s):Inv n (foldN n f s):=by
 induction n with
 | zero=>exact h
 | succ n ih=>exact hI n _ (by omega) (ih fun i s hi=>hI i s (by omega))
theorem loopEv{σ β : Type}(n W:Nat)(F:Nat→Nat → σ → β)(step:Nat → σ → σ)(Inv:Nat → σ → Prop)(hI:∀i s,i<n→Inv i s→Inv (i+1) (step i s))
  (hs:∀i s,i<n→Inv i s→∀B y,Ev (fun m=>F m (i+1) (step i s)) B y→Ev (fun m=>F m i s) (B+W) y) (s : σ) (h:Inv 0 s) (B:Nat) (y : β) (he:Ev (fun m=>F m n (foldN n step s)) B y):Ev (fun m=>F m 0 s) (B+n*W) y:=by
 have key:∀k,k≤n→Ev (fun m=>F m (n-k) (foldN (n-k) step s)) (B+k*W) y:=by
  intro k
  induction k with
  | zero=>intro _;simpa using he
  | succ k ih =>
   intro hk
   have:=ih (by omega)
   have hinv:Inv (n-(k+1)) (foldN (n-(k+1)) step s):=foldN_inv Inv (fun i s hi=>hI i s (by omega)) h
   have h2:=hs (n-(k+1)) _ (by omega) hinv (B+k*W) y (by
    rw [show n-(k+1)+1=n-k by omega]
    have e:foldN (n-k) step s=step (n-(k+1)) (foldN (n-(k+1)) step s):=by
     rw [show n-k=(n-(k+1))+1 by omega];rfl
    rw [← e];exact this)
   rw [Nat.add_one_mul,← Nat.add_assoc]
   exact h2
 have:=key n (Nat.le_refl _)
 simpa [foldN] using this
def cntId(l:List tDirent.D)(id:Int):Nat:=(l.filter fun d=>d.2.1==id).length
def namedN(l:List Ino)(id:Int):Nat:=(l.map fun x=>cntId (nmsOf x) id).sum
theorem cnt_take{l:List tDirent.D}{id:Int}{j:Nat}(hj:j<l.length):cntId (l.take (j+1)) id=cntId (l.take j) id+cond ((gd tDirent l j).2.1==id) 1 0:=by
 unfold cntId
 rw [List.take_succ_eq_append_getElem hj,List.filter_append,List.length_append]
 congr 1
 rw [gd_eq hj]
 cases h:(l[j]).2.1==id <;> simp [List.filter_cons,h]
theorem cnt_le(l:List tDirent.D)(id:Int):cntId l id≤l.length:=List.length_filter_le _ _
theorem named_take{l:List Ino}{id:Int}{i:Nat}(hi:i<l.length):namedN (l.take (i+1)) id=namedN (l.take i) id+cntId (nmsOf (gd tInode l i)) id:=by
 unfold namedN
 rw [List.take_succ_eq_append_getElem hi,List.map_append,List.sum_append_nat]
 simp [gd_eq hi]
def nmsN(l:List Ino):Nat:=(l.map fun x=>(nmsOf x).length).sum
theorem named_le(l:List Ino)(id:Int):namedN l id≤nmsN l:=by
 unfold namedN nmsN
 induction l with
 | nil=>simp
 | cons x l ih=>simp only [List.map_cons,List.sum_cons];have:=cnt_le (nmsOf x) id;omega
theorem nms_get{l:List Ino}{i:Nat}(hi:i<l.length):(nmsOf (gd tInode l i)).length≤nmsN l:=by
 unfold nmsN
 rw [gd_eq hi]
 have:∀(l:List Ino) (i:Nat) (hi:i<l.length),(nmsOf l[i]).length≤(l.map fun x=>(nmsOf x).length).sum:=by
  intro l
  induction l with
  | nil=>intro i hi;simp at hi
  | cons x l ih =>
   intro i hi
   simp only [List.map_cons,List.sum_cons]
   cases i with
   | zero=>simp
   | succ i=>have:=ih i (by simpa using hi);simp only [List.getElem_cons_succ];omega
 exact this l i hi
theorem named_take_le(l:List Ino)(id:Int)(i:Nat):namedN (l.take i) id≤nmsN l:=by
 refine Nat.le_trans (named_le _ _) ?_
 unfold nmsN
 conv=>rhs;rw [← List.take_append_drop i l,List.map_append,List.sum_append_nat]
 omega
theorem inc_i(i:Nat)(h:i<4000000000000000000):w64 ((i:Int)+1)=((i+1:Nat):Int):=by rw [w64_sm (by omega) (by omega)];omega
theorem foldN_named(l:List Ino)(id:Int):∀i,i≤l.length→foldN i (fun i s=>s+cntId (nmsOf (gd tInode l i)) id) 0=namedN (l.take i) id
 | 0,_=>by simp [foldN,namedN]
 | i+1,h=>by
  rw [foldN,foldN_named l id i (by omega),named_take (by omega)]
theorem foldN_cnt(l:List tDirent.D)(id:Int)(s:Nat):∀j,j≤l.length→foldN j (fun j s=>s+cond ((gd tDirent l j).2.1==id) 1 0) s=s+cntId (l.take j) id
 | 0,_=>by simp [foldN,cntId]
 | j+1,h=>by
  rw [foldN,foldN_cnt l id s j (by omega),cnt_take (by omega)];omega
theorem ev_big{β : Type}{f:Nat → β}{B:Nat}{y : β}(h:Ev f B y)(hb:B≤4611686018427387904):f BIG=y:=h BIG (by have:=big_gt hb;omega)
theorem spec_Named_eq(v:tVol.D)(id:Int)(hl:v.2.1.length≤1048576)(hn:nmsN v.2.1≤1048576):spec_l4Named (v,id,())=some ((namedN v.2.1 id:Int),()):=by
 show spec_l4Named_s (spec_l4Named_L BIG) v id=_
 unfold spec_l4Named_s
 have key:=loopEv v.2.1.length (1048576+2) (fun m i (s:Nat)=>(spec_l4Named_L m).k3 id (s:Int) (i:Int) v) (fun i s=>s+cntId (nmsOf (gd tInode v.2.1 i)) id) (fun i s=>s=namedN (v.2.1.take i) id) (fun i s hi hs=>by rw [hs,named_take hi]) (fun i s hi hs B y he=>by
  have hsl:s≤1048576:=by have:=named_take_le v.2.1 id i;omega
  have hnl:=nms_get hi
  have inner:=loopEv (nmsOf (gd tInode v.2.1 i)).length 1 (fun m j (s:Nat)=>(spec_l4Named_L m).k6 id (s:Int) (i:Int) (j:Int) v) (fun j s=>s+cond ((gd tDirent (nmsOf (gd tInode v.2.1 i)) j).2.1==id) 1 0) (fun j s=>s≤1048576+j) (fun j s hj hs=>by
   cases (gd tDirent (nmsOf (gd tInode v.2.1 i)) j).2.1==id <;> simp <;> omega) (fun j s hj hs B y he=>by
   refine he.step fun m=>?_
   show spec_l4Named_b6 (spec_l4Named_L m) _ _ _ _ _=_
   unfold spec_l4Named_b6
   rw [ix_nat hi]
   simp only [obs]
   show cond (decide ((j:Int)<((nmsOf (gd tInode v.2.1 i)).length:Int))) ((ix (nmsOf (gd tInode v.2.1 i)).length (j:Int)).bind _) _=_
   rw [lt_t hj]
   simp only [cond_true]
   rw [ix_nat hj]
   simp only [obs]
   rw [inc_i j (by omega),inc_i s (by omega)]
   show cond ((gd tDirent (nmsOf (gd tInode v.2.1 i)) j).2.1==id) _ _=_
   cases (gd tDirent (nmsOf (gd tInode v.2.1 i)) j).2.1==id <;> rfl) s (by omega) (B+1) y (by
   refine he.step fun m=>?_
   rw [foldN_cnt _ _ _ _ (Nat.le_refl _),List.take_length]
   show spec_l4Named_b6 (spec_l4Named_L m) _ _ _ _ _=_
   unfold spec_l4Named_b6
   rw [ix_nat hi]
   simp only [obs]
   show cond (decide (((nmsOf (gd tInode v.2.1 i)).length:Int)<((nmsOf (gd tInode v.2.1 i)).length:Int))) _ _=_
   rw [lt_f (Nat.le_refl _)]
   simp only [cond_false]
   rw [inc_i i (by omega)])
  refine(inner.step (f:=fun m=>(spec_l4Named_L m).k3 id (s:Int) (i:Int) v) fun m=>?_).mono (by omega)
  show spec_l4Named_b3 (spec_l4Named_L m) _ _ _ _=_
  unfold spec_l4Named_b3
  rw [lt_t hi];rfl) 0 (by simp [namedN]) 1 (some ((namedN v.2.1 id:Int),())) (Ev.done fun m=>by
  rw [foldN_named _ _ _ (Nat.le_refl _),List.take_length]
  show spec_l4Named_b3 (spec_l4Named_L m) _ _ _ _=_
  unfold spec_l4Named_b3
  rw [lt_f (Nat.le_refl _)];rfl)
 have hm:v.2.1.length*(1048576+2)≤1048576*(1048576+2):=Nat.mul_le_mul_right _ hl
 exact ev_big key (by omega)
theorem impl_named_eq(v:tVol.D)(id:Int)(hl:v.2.1.length≤1048576)(hn:nmsN v.2.1≤1048576):impl_Vol_named (v,id,())=some ((namedN v.2.1 id:Int),()):=by
 show impl_Vol_named_s (impl_Vol_named_L BIG) v id=_
 unfold impl_Vol_named_s
 have key:=loopEv v.2.1.length (1048576+2) (fun m i (s:Nat)=>(impl_Vol_named_L m).k3 id (s:Int) v.2.1 (v.2.1.length:Int) (i:Int)) (fun i s=>s+cntId (nmsOf (gd tInode v.2.1 i)) id) (fun i s=>s=namedN (v.2.1.take i) id) (fun i s hi hs=>by rw [hs,named_take hi]) (fun i s hi hs B y he=>by
  have hsl:s≤1048576:=by have:=named_take_le v.2.1 id i;omega
  have hnl:=nms_get hi
  have inner:=loopEv (nmsOf (gd tInode v.2.1 i)).length 1 (fun m j (s:Nat)=>(impl_Vol_named_L m).k6 id (s:Int) v.2.1 (v.2.1.length:Int) (i:Int) (nmsOf (gd tInode v.2.1 i)) ((nmsOf (gd tInode v.2.1 i)).length:Int) (j:Int)) (fun j s=>s+cond ((gd tDirent (nmsOf (gd tInode v.2.1 i)) j).2.1==id) 1 0) (fun j s=>s≤1048576+j) (fun j s hj hs=>by
   cases (gd tDirent (nmsOf (gd tInode v.2.1 i)) j).2.1==id <;> simp <;> omega) (fun j s hj hs B y he=>by
   refine he.step fun m=>?_
   show impl_Vol_named_b6 (impl_Vol_named_L m) _ _ _ _ _ _ _ _=_
   unfold impl_Vol_named_b6
   rw [lt_t hj]
   simp only [cond_true]
   rw [ix_nat hj]
   simp only [obs]
   rw [inc_i j (by omega),inc_i s (by omega)]
   cases (gd tDirent (nmsOf (gd tInode v.2.1 i)) j).2.1==id <;> rfl) s (by omega) (B+1) y (by
   refine he.step fun m=>?_
   rw [foldN_cnt _ _ _ _ (Nat.le_refl _),List.take_length]
   show impl_Vol_named_b6 (impl_Vol_named_L m) _ _ _ _ _ _ _ _=_
   unfold impl_Vol_named_b6
   rw [lt_f (Nat.le_refl _)]
   simp only [cond_false]
   rw [inc_i i (by omega)])
  refine(inner.step (f:=fun m=>(impl_Vol_named_L m).k3 id (s:Int) v.2.1 (v.2.1.length:Int) (i:Int)) fun m=>?_).mono (by omega)
  show impl_Vol_named_b3 (impl_Vol_named_L m) _ _ _ _ _=_
  unfold impl_Vol_named_b3
  rw [lt_t hi,ix_nat hi];rfl) 0 (by simp [namedN]) 1 (some ((namedN v.2.1 id:Int),())) (Ev.done fun m=>by
  rw [foldN_named _ _ _ (Nat.le_refl _),List.take_length]
  show impl_Vol_named_b3 (impl_Vol_named_L m) _ _ _ _ _=_
  unfold impl_Vol_named_b3
  rw [lt_f (Nat.le_refl _)];rfl)
 have hm:v.2.1.length*(1048576+2)≤1048576*(1048576+2):=Nat.mul_le_mul_right _ hl
 exact ev_big key (by omega)
abbrev Flags:Type:=List Bool
def T(xs:Flags)(i:Nat):Prop:=gd .bool xs i=true
theorem T_set{xs:Flags}{x i:Nat}(hx:x<xs.length):T (xs.set x true) i↔(i=x∨T xs i):=by
 unfold T gd
 simp only [List.getD_eq_getElem?_getD,List.getElem?_set]
 by_cases h:x=i
 ·subst h;simp [hx]
 ·simp only [h,if_false]
  constructor
  ·intro h;exact .inr h
  ·rintro (rfl | h1)
   ·exact absurd rfl h
   ·exact h1
abbrev FS:Type:=Flags×Flags
section
variable(l:List Ino)
def stJ(i j:Nat)(s:FS):FS :=
 match iat l (gd tDirent (nmsOf (gd tInode l i)) j).2.1 with
 | none=>s
 | some x=>(s.1.set x true,s.2.set x true)
def stI(i:Nat)(s:FS):FS:=cond (gd .bool s.2 i) (foldN (nmsOf (gd tInode l i)).length (stJ l i) s) s
def rnd(s:FS):FS:=foldN l.length (stI l) s
def FS.Len(n:Nat)(s:FS):Prop:=s.1.length=n∧s.2.length=n
theorem stJ_len{n i j:Nat}{s:FS}(h:s.Len n):(stJ l i j s).Len n:=by
 unfold stJ;split
 ·exact h
 ·exact⟨by simpa using h.1,by simpa using h.2⟩
theorem stI_len{n i:Nat}{s:FS}(h:s.Len n):(stI l i s).Len n:=by
 unfold stI
 cases gd .bool s.2 i
 ·exact h
 ·exact foldN_inv (fun _ s=>FS.Len n s) (fun i s _ hs=>stJ_len l hs) h
theorem rnd_len{n:Nat}{s:FS}(h:s.Len n):(rnd l s).Len n:=foldN_inv (fun _ s=>FS.Len n s) (fun i s _ hs=>stI_len l hs) h
theorem below_ev(v:tVol.D)(hl:v.2.1.length≤1048576)(hn:nmsN v.2.1≤1048576)(s:FS)(h:s.Len v.2.1.length) :
  (spec_l4Below_L BIG).k8 0 v s.1 s.2=some ((foldN v.2.1.length (fun _=>rnd v.2.1) s).1,()):=by
 have key:=loopEv v.2.1.length (v.2.1.length*1048580+2) (fun m k (s:FS)=>(spec_l4Below_L m).k8 (k:Int) v s.1 s.2) (fun _=>rnd v.2.1) (fun _ s=>s.Len v.2.1.length) (fun _ s _ hs=>rnd_len v.2.1 hs) (fun k s hk hs B y he=>by
  have inner:=loopEv v.2.1.length 1048580 (fun m i (s:FS)=>(spec_l4Below_L m).k11 (k:Int) (i:Int) v s.1 s.2) (stI v.2.1) (fun _ s=>s.Len v.2.1.length) (fun _ s _ hs=>stI_len v.2.1 hs) (fun i s hi hs B y he=>by
   have hnl:=nms_get hi
   cases ho:gd .bool s.2 i
   ·refine(he.step (f:=fun m=>(spec_l4Below_L m).k11 (k:Int) (i:Int) v s.1 s.2) fun m=>?_).mono (by omega)
    show spec_l4Below_b11 (spec_l4Below_L m) _ _ _ _ _=_
    unfold spec_l4Below_b11
    have hix:ix s.2.length (i:Int)=some i:=ix_nat (by rw [hs.2];exact hi)
    rw [lt_t hi,hix]
    simp only [cond_true,obs,Nat.zero_add,ho,Bool.not_false]
    rw [inc_i i (by omega)]
    unfold stI;rw [ho];rfl
   ·have hst:stI v.2.1 i s=foldN (nmsOf (gd tInode v.2.1 i)).length (stJ v.2.1 i) s:=by unfold stI;rw [ho];rfl
    rw [hst] at he
    have inj:=loopEv (nmsOf (gd tInode v.2.1 i)).length 1 (fun m j (s:FS)=>(spec_l4Below_L m).k15 (k:Int) (i:Int) (j:Int) v s.1 s.2) (stJ v.2.1 i) (fun _ s=>s.Len v.2.1.length) (fun _ s _ hs=>stJ_len v.2.1 hs) (fun j s hj hs B y he=>by
     refine he.step fun m=>?_
     show spec_l4Below_b15 (spec_l4Below_L m) _ _ _ _ _ _=_
     unfold spec_l4Below_b15
     rw [ix_nat hi]
     simp only [obs]
     show cond (decide ((j:Int)<((nmsOf (gd tInode v.2.1 i)).length:Int))) ((ix (nmsOf (gd tInode v.2.1 i)).length (j:Int)).bind _) _=_
     rw [lt_t hj]
     simp only [cond_true]
     rw [ix_nat hj]
     simp only [obs]
     rw [spec_At_eq v _ hl]
     simp only [obs,optI_ge]
     rw [inc_i j (by omega)]
     show cond (iat v.2.1 (gd tDirent (nmsOf (gd tInode v.2.1 i)) j).2.1).isSome _ _=_
     unfold stJ
     cases hx:iat v.2.1 (gd tDirent (nmsOf (gd tInode v.2.1 i)) j).2.1 with
     | none=>rfl
     | some x =>
      have hxl:=(iat_lt hx).1
      simp only [Option.isSome_some,cond_true]
      have hx2:iat v.2.1 (gd tDirent (gd tInode v.2.1 i).2.2.2.2.2.2.1 j).2.1=some x:=hx
      rw [hx2]
      show((ix s.1.length ((x:Nat):Int)).bind _)=_
      rw [ix_nat (by rw [hs.1];exact hxl)]
      simp only [obs]
      show((ix s.2.length ((x:Nat):Int)).bind _)=_
      rw [ix_nat (by rw [hs.2];exact hxl)]
      simp only [obs,Nat.zero_add]) s hs (B+1) y (by
     refine he.step fun m=>?_
     show spec_l4Below_b15 (spec_l4Below_L m) _ _ _ _ _ _=_
     unfold spec_l4Below_b15
     rw [ix_nat hi]
     simp only [obs]
     show cond (decide (((nmsOf (gd tInode v.2.1 i)).length:Int)<((nmsOf (gd tInode v.2.1 i)).length:Int))) _ _=_
     rw [lt_f (Nat.le_refl _)]
     simp only [cond_false]
     rw [inc_i i (by omega)])
    refine(inj.step (f:=fun m=>(spec_l4Below_L m).k11 (k:Int) (i:Int) v s.1 s.2) fun m=>?_).mono (by omega)
    show spec_l4Below_b11 (spec_l4Below_L m) _ _ _ _ _=_
    unfold spec_l4Below_b11
    have hix:ix s.2.length (i:Int)=some i:=ix_nat (by rw [hs.2];exact hi)
    rw [lt_t hi,hix]
    simp only [cond_true,obs,Nat.zero_add,ho,Bool.not_true,cond_false]
    rfl) s hs (B+1) y (by
   refine he.step fun m=>?_
   show spec_l4Below_b11 (spec_l4Below_L m) _ _ _ _ _=_
   unfold spec_l4Below_b11
   rw [lt_f (Nat.le_refl _)]
   simp only [cond_false]
   rw [inc_i k (by omega)];rfl)
  refine(inner.step (f:=fun m=>(spec_l4Below_L m).k8 (k:Int) v s.1 s.2) fun m=>?_).mono (by omega)
  show spec_l4Below_b8 (spec_l4Below_L m) _ _ _ _=_
  unfold spec_l4Below_b8
  rw [lt_t hk];rfl) s h 1 (some ((foldN v.2.1.length (fun _=>rnd v.2.1) s).1,())) (Ev.done fun m=>by
  show spec_l4Below_b8 (spec_l4Below_L m) _ _ _ _=_
  unfold spec_l4Below_b8
  rw [lt_f (Nat.le_refl _)];rfl)
 have h1:v.2.1.length*1048580≤1048576*1048580:=Nat.mul_le_mul_right _ hl
 have hm:v.2.1.length*(v.2.1.length*1048580+2)≤1048576*(1048576*1048580+2):=Nat.mul_le_mul hl (Nat.add_le_add_right h1 2)
 have hm2:=Nat.le_trans hm (by decide:1048576*(1048576*1048580+2)≤4611686018427387000)
 generalize v.2.1.length*(v.2.1.length*1048580+2)=X at *
 exact ev_big key (by omega)
def fls(n:Nat):Flags:=List.replicate n false
def belowF(id:Int):Flags :=
 match iat l id with
 | none=>fls l.length
 | some a=>(foldN l.length (fun _=>rnd l) (fls l.length,(fls l.length).set a true)).1
theorem spec_Below_eq(v:tVol.D)(id:Int)(hl:v.2.1.length≤1048576)(hn:nmsN v.2.1≤1048576):spec_l4Below (v,id,())=some (belowF v.2.1 id,()):=by
 show spec_l4Below_s (spec_l4Below_L BIG) v id=_
 unfold spec_l4Below_s
 have hr:(decide (0≤(v.2.1.length:Int))&&decide ((v.2.1.length:Int)=(v.2.1.length:Int))&&room (Int.toNat (v.2.1.length:Int)))=true:=by
  rw [Int.toNat_natCast,room_t (by omega),decide_eq_true (by omega),decide_eq_true rfl];rfl
 rw [hr]
 simp only [cond_true]
 rw [spec_At_eq v id hl]
 simp only [obs,optI_neg,Int.toNat_natCast]
 unfold belowF
 cases ha:iat v.2.1 id with
 | none=>rfl
 | some a =>
  simp only [Option.isNone_some,cond_false,optI]
  rw [List.length_replicate,ix_nat (iat_lt ha).1]
  simp only [obs,Nat.zero_add]
  exact below_ev v hl hn (fls v.2.1.length,(fls v.2.1.length).set a true) ⟨by simp [fls],by simp [fls]⟩
end
theorem gd_mem'{t:Ty}{xs:List t.D}{i:Nat}(h:i<xs.length):gd t xs i∈xs:=by rw [gd_eq h];exact List.getElem_mem h
theorem mem_gd{t:Ty}{xs:List t.D}{x:t.D}(h:x∈xs):∃i,i<xs.length∧gd t xs i=x:=by
 obtain ⟨i,hi,he⟩:=List.mem_iff_getElem.1 h
 exact⟨i,hi,by rw [gd_eq hi];exact he⟩
def E(l:List Ino)(a b:Int):Prop:=∃i d,iat l a=some i∧d∈nmsOf (gd tInode l i)∧d.2.1=b
abbrev Bel(l:List Ino)(a b:Int):Prop:=Relation.TransGen (E l) a b
def Dist(l:List Ino):Prop:=∀x,x<l.length→iat l (gd tInode l x).1=some x
def Exs(l:List Ino):Prop:=∀i,i<l.length→∀d,d∈nmsOf (gd tInode l i)→(iat l d.2.1).isSome=true
section
variable(l:List Ino)
theorem T_mono{xs:Flags}{x i:Nat}(h:T xs i):T (xs.set x true) i:=by
 by_cases hx:x<xs.length
 ·exact(T_set hx).2 (.inr h)
 ·rwa [List.set_eq_of_length_le (by omega)]
def FS.le(s s':FS):Prop:=(∀i,T s.1 i→T s'.1 i)∧(∀i,T s.2 i→T s'.2 i)
theorem FS.le.rfl'{s:FS} : s.le s:=⟨fun _ h=>h,fun _ h=>h⟩
theorem FS.le.tr{s s' s'':FS}(h:s.le s')(k:s'.le s''):s.le s'':=⟨fun i hi=>k.1 i (h.1 i hi),fun i hi=>k.2 i (h.2 i hi)⟩
theorem foldN_le{f:Nat→FS→FS}(h:∀i s,FS.le s (f i s))(s:FS):∀n,FS.le s (foldN n f s)
 | 0=>.rfl'
 | n+1=>(foldN_le h s n).tr (h n _)
theorem foldN_le'{f:Nat→FS→FS}(h:∀i s,FS.le s (f i s))(s:FS){i n:Nat}(hi:i<n):FS.le (f i (foldN i f s)) (foldN n f s):=by
 induction n with
 | zero=>omega
 | succ n ih =>
  by_cases h1:i=n
  ·subst h1;exact .rfl'
  ·exact(ih (by omega)).tr (h n _)
theorem stJ_le(i j:Nat)(s:FS):FS.le s (stJ l i j s):=by
 unfold stJ;split
 ·exact .rfl'
 ·exact⟨fun _ h=>T_mono h,fun _ h=>T_mono h⟩
theorem stI_le(i:Nat)(s:FS):FS.le s (stI l i s):=by
 unfold stI
 cases gd .bool s.2 i
 ·exact .rfl'
 ·exact foldN_le (stJ_le l i) s _
theorem rnd_le(s:FS):FS.le s (rnd l s):=foldN_le (stI_le l) s _
theorem rnd_succ{s:FS}(hs:s.Len l.length){i x:Nat}(hi:i<l.length)(ho:T s.2 i){d:tDirent.D}(hd:d∈nmsOf (gd tInode l i))(hx:iat l d.2.1=some x):T (rnd l s).1 x∧T (rnd l s).2 x:=by
 have h1:=foldN_le' (stI_le l) s hi
 have ht:T (foldN i (stI l) s).2 i:=(foldN_le (stI_le l) s i).2 i ho
 have htl:(foldN i (stI l) s).Len l.length:=foldN_inv (fun _ s=>FS.Len l.length s) (fun i s _ hs=>stI_len l hs) hs
 generalize foldN i (stI l) s=t at *
 obtain ⟨j,hj,rfl⟩:=mem_gd hd
 have h2:=foldN_le' (stJ_le l i) t hj
 have e:stI l i t=foldN (nmsOf (gd tInode l i)).length (stJ l i) t:=by unfold stI;rw [show gd .bool t.2 i=true from ht];rfl
 rw [← e] at h2
 have hul:(foldN j (stJ l i) t).Len l.length:=foldN_inv (fun _ s=>FS.Len l.length s) (fun i s _ hs=>stJ_len l hs) htl
 generalize foldN j (stJ l i) t=u at *
 have hs:stJ l i j u=(u.1.set x true,u.2.set x true):=by unfold stJ;rw [hx]
 rw [hs] at h2
 have hxl:=(iat_lt hx).1
 exact⟨h1.1 x (h2.1 x ((T_set (by rw [hul.1];exact hxl)).2 (.inl rfl))),h1.2 x (h2.2 x ((T_set (by rw [hul.2];exact hxl)).2 (.inl rfl)))⟩
theorem rnd_sound(Pi Po:Nat→Prop)(hP:∀i,i<l.length→Po i→∀d,d∈nmsOf (gd tInode l i)→∀x,iat l d.2.1=some x→Pi x∧Po x){s:FS}(hl:s.Len l.length)(h1:∀i,T s.1 i→Pi i)(h2:∀i,T s.2 i→Po i) :
  (∀i,T (rnd l s).1 i→Pi i)∧(∀i,T (rnd l s).2 i→Po i):=by
 have key:(rnd l s).Len l.length∧(∀i,T (rnd l s).1 i→Pi i)∧(∀i,T (rnd l s).2 i→Po i):=by
  refine foldN_inv (fun _ (s:FS)=>s.Len l.length∧(∀i,T s.1 i→Pi i)∧(∀i,T s.2 i→Po i)) (fun i s hi hs=>?_) ⟨hl,h1,h2⟩
  obtain ⟨hl,h1,h2⟩:=hs
  refine⟨stI_len l hl,?_⟩
  cases ho:gd .bool s.2 i
  ·rw [show stI l i s=s by unfold stI;rw [ho];rfl];exact⟨h1,h2⟩
  ·rw [show stI l i s=foldN (nmsOf (gd tInode l i)).length (stJ l i) s by unfold stI;rw [ho];rfl]
   have:=foldN_inv (n:=(nmsOf (gd tInode l i)).length) (f:=stJ l i) (fun _ (s:FS)=>s.Len l.length∧(∀i,T s.1 i→Pi i)∧(∀i,T s.2 i→Po i)) (fun j t hj ht=>by
    obtain ⟨hl,g1,g2⟩:=ht
    refine⟨stJ_len l hl,?_⟩
    unfold stJ
    split
    ·exact⟨g1,g2⟩
    ·rename_i x hx
     obtain ⟨p1,p2⟩:=hP i hi (h2 i ho) _ (gd_mem' hj) x hx
     have hxl:=(iat_lt hx).1
     refine⟨fun k hk=>?_,fun k hk=>?_⟩
     ·rcases (T_set (by rw [hl.1];exact hxl)).1 hk with rfl | hk
      ·exact p1
      ·exact g1 k hk
     ·rcases (T_set (by rw [hl.2];exact hxl)).1 hk with rfl | hk
      ·exact p2
      ·exact g2 k hk) ⟨hl,h1,h2⟩
   exact this.2
 exact key.2
def Clo(s:FS):Prop:=∀i,i<l.length→T s.2 i→∀d,d∈nmsOf (gd tInode l i)→∀x,iat l d.2.1=some x→T s.1 x∧T s.2 x
theorem clo_rnd{s:FS}(hl:s.Len l.length)(h:Clo l s):Clo l (rnd l s):=by
 obtain ⟨h1,h2⟩:=rnd_sound l (T s.1) (T s.2) h hl (fun _ h=>h) (fun _ h=>h)
 intro i hi ho d hd x hx
 obtain ⟨p1,p2⟩:=h i hi (h2 i ho) d hd x hx
 exact⟨(rnd_le l s).1 x p1,(rnd_le l s).2 x p2⟩
def ct(xs:Flags):Nat:=(xs.filter fun b=>b).length
theorem ct_le(xs:Flags):ct xs≤xs.length:=List.length_filter_le _ _
theorem ct_mono:∀(a b:Flags),a.length=b.length→(∀i,T a i→T b i)→ct a≤ct b∧(ct a=ct b→a=b)
 | [],[],_,_=>⟨Nat.le_refl _,fun _=>rfl⟩
 | [],_ :: _,h,_=>by simp at h
 | _ :: _,[],h,_=>by simp at h
 | x :: a,y :: b,h,hT=>by
  obtain ⟨h1,h2⟩:=ct_mono a b (by simpa using h) (fun i hi=>hT (i+1) hi)
  have h0:x=true→y=true:=fun hx=>hT 0 hx
  unfold ct at *
  cases x <;> cases y <;> simp only [List.filter_cons,if_true,Bool.false_eq_true,if_false,List.length_cons]
  ·exact⟨h1,fun h=>by rw [h2 h]⟩
  ·exact⟨by omega,fun h=>by omega⟩
  ·exact absurd (h0 rfl) (by simp)
  ·exact⟨by omega,fun h=>by rw [h2 (by omega)]⟩
theorem ct_pos{xs:Flags}{i:Nat}(h:T xs i):1≤ct xs:=by
 have hm:true∈xs:=by
  unfold T gd at h
  rw [List.getD_eq_getElem?_getD] at h
  cases hx:xs[i]? with
  | none=>rw [hx] at h;simp at h;cases h
  | some b =>
   rw [hx] at h
   have hb:b=true:=h
   subst hb
   exact List.mem_of_getElem? hx
 unfold ct
 exact List.length_pos_of_mem (List.mem_filter.2 ⟨hm,rfl⟩)
theorem rounds(s:FS)(hl:s.Len l.length)(h:1≤ct s.2):∀k,(foldN k (fun _=>rnd l) s).Len l.length∧(Clo l (foldN k (fun _=>rnd l) s)∨k+1≤ct (foldN k (fun _=>rnd l) s).2)
 | 0=>⟨hl,.inr h⟩
 | k+1=>by
  obtain ⟨hk,ih⟩:=rounds s hl h k
  rw [foldN]
  generalize foldN k (fun _=>rnd l) s=t at *
  have hr:=rnd_len l hk
  refine⟨hr,?_⟩
  rcases ih with ih | ih
  ·exact .inl (clo_rnd l hk ih)
  ·obtain ⟨c1,c2⟩:=ct_mono t.2 (rnd l t).2 (by rw [hk.2,hr.2]) (rnd_le l t).2
   by_cases hc:ct t.2=ct (rnd l t).2
   ·left
    have e:=c2 hc
    intro i hi ho d hd x hx
    rw [← e] at ho
    exact rnd_succ l hk hi ho hd hx
   ·right;omega
theorem rounds_sound(Pi Po:Nat→Prop)(hP:∀i,i<l.length→Po i→∀d,d∈nmsOf (gd tInode l i)→∀x,iat l d.2.1=some x→Pi x∧Po x)(s:FS)(hl:s.Len l.length)(h1:∀i,T s.1 i→Pi i)(h2:∀i,T s.2 i→Po i) :
  ∀k,(foldN k (fun _=>rnd l) s).Len l.length∧(∀i,T (foldN k (fun _=>rnd l) s).1 i→Pi i)∧(∀i,T (foldN k (fun _=>rnd l) s).2 i→Po i)
 | 0=>⟨hl,h1,h2⟩
 | k+1=>by
  obtain ⟨g,g1,g2⟩:=rounds_sound Pi Po hP s hl h1 h2 k
  exact⟨rnd_len l g,rnd_sound l Pi Po hP g g1 g2⟩
theorem rounds_le(s:FS):∀k,FS.le s (foldN k (fun _=>rnd l) s):=foldN_le (fun _ s=>rnd_le l s) s
theorem T_fls(n i:Nat):¬T (fls n) i:=by
 unfold T gd fls
 rw [List.getD_eq_getElem?_getD,List.getElem?_replicate]
 split <;> simp [Ty.zero]
theorem belowF_len(id:Int):(belowF l id).length=l.length:=by
 unfold belowF
 split
 ·simp [fls]
 ·exact(rounds_sound l (fun _=>True) (fun _=>True) (fun _ _ _ _ _ _ _=>⟨trivial,trivial⟩) _ ⟨by simp [fls],by simp [fls]⟩ (fun _ _=>trivial) (fun _ _=>trivial) _).1.1
theorem belowF_iff(hd:Dist l)(id:Int){x:Nat}(hx:x<l.length):T (belowF l id) x↔Bel l id (gd tInode l x).1:=by
 unfold belowF
 cases ha:iat l id with
 | none =>
  constructor
  ·intro h;exact absurd h (T_fls _ _)
  ·intro h
   have:∀b,Bel l id b→False:=by
    intro b hb
    induction hb with
    | single h=>obtain ⟨i,d,h1,_⟩:=h;rw [ha] at h1;cases h1
    | tail _ _ ih=>exact ih
   exact(this _ h).elim
 | some a =>
  obtain ⟨hal,hae⟩:=iat_lt ha
  have hl0:FS.Len l.length (fls l.length,(fls l.length).set a true):=⟨by simp [fls],by simp [fls]⟩
  have ho:T ((fls l.length).set a true) a:=(T_set (by simp [fls];exact hal)).2 (.inl rfl)
  constructor
  ·intro h
   refine(rounds_sound l (fun y=>Bel l id (gd tInode l y).1) (fun y=>(gd tInode l y).1=id∨Bel l id (gd tInode l y).1) ?_ _ hl0 (fun i h=>absurd h (T_fls _ _)) ?_ l.length).2.1 x h
   ·intro i hi hpo d hdm y hy
    obtain ⟨hyl,hye⟩:=iat_lt hy
    have he:E l (gd tInode l i).1 (gd tInode l y).1:=⟨i,d,hd i hi,hdm,hye.symm⟩
    rcases hpo with hpo | hpo
    ·rw [hpo] at he;exact⟨.single he,.inr (.single he)⟩
    ·exact⟨hpo.tail he,.inr (hpo.tail he)⟩
   ·intro i hi
    rcases (T_set (by simp [fls];exact hal)).1 hi with rfl | hi
    ·exact .inl hae
    ·exact absurd hi (T_fls _ _)
  ·intro h
   obtain ⟨hlen,hclo⟩:=rounds l _ hl0 (ct_pos ho) l.length
   have hc:Clo l (foldN l.length (fun _=>rnd l) (fls l.length,(fls l.length).set a true)):=by
    rcases hclo with h | h
    ·exact h
    ·have:=ct_le (foldN l.length (fun _=>rnd l) (fls l.length,(fls l.length).set a true)).2
     rw [hlen.2] at this
     omega
   show T (foldN l.length (fun _=>rnd l) (fls l.length,(fls l.length).set a true)).1 x
   have hoa:=(rounds_le l (fls l.length,(fls l.length).set a true) l.length).2 a ho
   generalize foldN l.length (fun _=>rnd l) (fls l.length,(fls l.length).set a true)=F at *
   have key:∀b,Bel l id b→∀y,iat l b=some y→T F.1 y∧T F.2 y:=by
    intro b hb
    induction hb with
    | single h =>
     obtain ⟨i,d,h1,h2,h3⟩:=h
     intro y hy
     rw [ha] at h1
     obtain rfl:=osj h1
     exact hc _ hal hoa d h2 y (by rw [h3];exact hy)
    | tail _ h ih =>
     obtain ⟨i,d,h1,h2,h3⟩:=h
     intro y hy
     exact hc i (iat_lt h1).1 (ih i h1).2 d h2 y (by rw [h3];exact hy)
   exact(key _ h x (hd x hx)).1
end
section
variable(l:List Ino)
def nm(q:Int):List tDirent.D :=
 match iat l q with
 | none=>[]
 | some i=>nmsOf (gd tInode l i)
theorem E_iff{a b:Int} : E l a b↔∃d,d∈nm l a∧d.2.1=b:=by
 unfold E nm
 constructor
 ·rintro ⟨i,d,h1,h2,h3⟩;rw [h1];exact⟨d,h2,h3⟩
 ·rintro ⟨d,h1,h2⟩
  cases hi:iat l a with
  | none=>rw [hi] at h1;simp at h1
  | some i=>rw [hi] at h1;exact⟨i,d,rfl,h1,h2⟩
def allIds:List Int:=l.flatMap fun x=>(nmsOf x).map fun d=>d.2.1
theorem allIds_len:(allIds l).length=nmsN l:=by
 unfold allIds nmsN
 rw [List.length_flatMap]
 congr 1
 simp
theorem nm_sub{q:Int}{d:tDirent.D}(h:d∈nm l q):d.2.1∈allIds l:=by
 unfold nm at h
 cases hi:iat l q with
 | none=>rw [hi] at h;simp at h
 | some i =>
  rw [hi] at h
  exact List.mem_flatMap.2 ⟨_,gd_mem' (iat_lt hi).1,List.mem_map.2 ⟨d,h,rfl⟩⟩
theorem nm_len(q:Int):(nm l q).length≤nmsN l:=by
 unfold nm
 split
 ·simp
 ·rename_i i hi;exact nms_get (iat_lt hi).1
def addD(out:List Int)(d:tDirent.D):List Int:=if d.2.1∈out then out else out++[d.2.1]
structure OutOk(id:Int)(out:List Int):Prop where
 nd:out.Nodup
 sub:out⊆allIds l
 bel:∀b,b∈out→Bel l id b
theorem OutOk.len{id:Int}{out:List Int}(h:OutOk l id out):out.length≤nmsN l:=by
 rw [← allIds_len];exact h.nd.length_le_of_subset h.sub
theorem addD_ok{id q:Int}{out:List Int}{d:tDirent.D}(h:OutOk l id out)(hq:q=id∨Bel l id q)(hd:d∈nm l q):OutOk l id (addD out d):=by
 unfold addD
 split
 ·exact h
 ·rename_i hn
  have he:E l q d.2.1:=(E_iff l).2 ⟨d,hd,rfl⟩
  refine⟨?_,?_,?_⟩
  ·rw [List.nodup_append]
   refine⟨h.nd,by simp,?_⟩
   intro a ha b hb
   rw [List.mem_singleton] at hb
   subst hb
   rintro rfl
   exact hn ha
  ·intro a ha
   rcases List.mem_append.1 ha with ha | ha
   ·exact h.sub ha
   ·rw [List.mem_singleton] at ha;rw [ha];exact nm_sub l hd
  ·intro b hb
   rcases List.mem_append.1 hb with hb | hb
   ·exact h.bel b hb
   ·rw [List.mem_singleton] at hb
    rw [hb]
    rcases hq with rfl | hq
    ·exact .single he
    ·exact hq.tail he
theorem addD_pre(out:List Int)(d:tDirent.D):∃t,addD out d=out++t:=by
 unfold addD;split
 ·exact⟨[],by simp⟩
 ·exact⟨_,rfl⟩
theorem addD_mem(out:List Int)(d:tDirent.D):d.2.1∈addD out d:=by
 unfold addD;split
 ·assumption
 ·simp
def addN(q:Int)(out:List Int):List Int:=foldN (nm l q).length (fun j o=>addD o (gd tDirent (nm l q) j)) out
theorem addN_ok{id q:Int}{out:List Int}(h:OutOk l id out)(hq:q=id∨Bel l id q):OutOk l id (addN l q out)∧(∃t,addN l q out=out++t)∧∀d,d∈nm l q→d.2.1∈addN l q out:=by
 have key:=foldN_inv (n:=(nm l q).length) (f:=fun j o=>addD o (gd tDirent (nm l q) j)) (fun j o=>OutOk l id o∧(∃t,o=out++t)∧∀k,k<j→(gd tDirent (nm l q) k).2.1∈o) (fun j o hj ho=>by
  obtain ⟨h1,⟨t,ht⟩,h3⟩:=ho
  refine⟨addD_ok l h1 hq (gd_mem' hj),?_,?_⟩
  ·obtain ⟨t',ht'⟩:=addD_pre o (gd tDirent (nm l q) j)
   exact⟨t++t',by rw [ht',ht,List.append_assoc]⟩
  ·intro k hk
   by_cases hkj:k=j
   ·subst hkj;exact addD_mem _ _
   ·obtain ⟨t',ht'⟩:=addD_pre o (gd tDirent (nm l q) j)
    rw [ht']
    exact List.mem_append.2 (.inl (h3 k (by omega)))) ⟨h,⟨[],by simp⟩,fun k hk=>by omega⟩
 obtain ⟨k1,k2,k3⟩:=key
 refine⟨k1,k2,fun d hd=>?_⟩
 obtain ⟨i,hi,he⟩:=mem_gd hd
 rw [← he];exact k3 i hi
end
structure Found(l:List Ino)(id:Int)(out:List Int):Prop where
 nd:out.Nodup
 iff:∀b,b∈out↔Bel l id b
 len:out.length≤nmsN l
theorem closed_found{l:List Ino}{id:Int}{out:List Int}(h:OutOk l id out)(hc:∀q,q=id∨q∈out→∀d,d∈nm l q→d.2.1∈out):Found l id out:=by
 refine⟨h.nd,fun b=>⟨h.bel b,fun hb=>?_⟩,h.len⟩
 induction hb with
 | single he=>obtain ⟨d,h1,rfl⟩:=(E_iff l).1 he;exact hc id (.inl rfl) d h1
 | tail _ he ih=>obtain ⟨d,h1,rfl⟩:=(E_iff l).1 he;exact hc _ (.inr ih) d h1
theorem below_loop(v:tVol.D)(hl:v.2.1.length≤1048576)(hn:nmsN v.2.1≤1048576)(id:Int):∀(r i:Nat) (out:List Int),i+r=nmsN v.2.1+1→OutOk v.2.1 id out→i≤out.length+1 →
  (∀k,k<i→∀d,d∈nm v.2.1 (gd (.int .i64) (id :: out) k)→d.2.1∈out) →
  ∃out',Found v.2.1 id out'∧Ev (fun m=>(impl_Vol_below_L m).k4 v (i:Int) out (id :: out)) (1+r*1048580) (some (out',())):=by
 intro r
 induction r with
 | zero =>
  intro i out hi ho hio hc
  have:=ho.len
  have hi2:i=out.length+1:=by omega
  refine⟨out,closed_found ho fun q hq d hd=>?_,(Ev.done fun m=>?_).mono (by omega)⟩
  ·rcases hq with rfl | hq
   ·exact hc 0 (by omega) d hd
   ·obtain ⟨k,hk,he⟩:=mem_gd (t:=.int .i64) hq
    exact hc (k+1) (by omega) d (by rw [show gd (.int .i64) (id :: out) (k+1)=gd (.int .i64) out k from rfl,he];exact hd)
  ·show impl_Vol_below_b4 (impl_Vol_below_L m) _ _ _ _=_
   unfold impl_Vol_below_b4
   rw [show(id :: out).length=i by rw [List.length_cons,hi2],lt_f (Nat.le_refl _)];rfl
 | succ r ih =>
  intro i out hi ho hio hc
  by_cases hlt:i<out.length+1
  case neg =>
   have hi2:i=out.length+1:=by omega
   refine⟨out,closed_found ho fun q hq d hd=>?_,(Ev.done fun m=>?_).mono (by omega)⟩
   ·rcases hq with rfl | hq
    ·exact hc 0 (by omega) d hd
    ·obtain ⟨k,hk,he⟩:=mem_gd (t:=.int .i64) hq
     exact hc (k+1) (by omega) d (by rw [show gd (.int .i64) (id :: out) (k+1)=gd (.int .i64) out k from rfl,he];exact hd)
   ·show impl_Vol_below_b4 (impl_Vol_below_L m) _ _ _ _=_
    unfold impl_Vol_below_b4
    rw [show(id :: out).length=i by rw [List.length_cons,hi2],lt_f (Nat.le_refl _)];rfl
  generalize hq:gd (.int .i64) (id :: out) i=q at *
  have hqi:q=id∨Bel v.2.1 id q:=by
   cases i with
   | zero=>left;rw [← hq];rfl
   | succ k =>
    right
    refine ho.bel q ?_
    rw [← hq]
    exact gd_mem' (t:=.int .i64) (xs:=out) (by omega)
  obtain ⟨k1,⟨t,ht⟩,k3⟩:=addN_ok v.2.1 ho hqi
  have hpre:∀k,k<out.length+1→gd (.int .i64) (id ::(out++t)) k=gd (.int .i64) (id :: out) k:=by
   intro k hk
   unfold gd
   rw [List.getD_eq_getElem?_getD,List.getD_eq_getElem?_getD,← List.cons_append,List.getElem?_append_left (by simpa using hk)]
  obtain ⟨out',f1,f2⟩:=ih (i+1) (addN v.2.1 q out) (by omega) k1 (by rw [ht];simp;omega) (fun k hk d hd=>by
   by_cases hki:k=i
   ·subst hki
    rw [ht,hpre k hlt,hq] at hd
    exact k3 d hd
   ·rw [ht,hpre k (by omega)] at hd
    rw [ht]
    exact List.mem_append.2 (.inl (hc k (by omega) d hd)))
  refine⟨out',f1,?_⟩
  have hol:=ho.len
  have hib:i<4000000000000000000:=by omega
  cases hx:iat v.2.1 q with
  | none =>
   have hnm:nm v.2.1 q=[]:=by unfold nm;rw [hx]
   have hadd:addN v.2.1 q out=out:=by unfold addN;rw [hnm];rfl
   rw [hadd] at f2
   refine(f2.step (f:=fun m=>(impl_Vol_below_L m).k4 v (i:Int) out (id :: out)) fun m=>?_).mono (by omega)
   show impl_Vol_below_b4 (impl_Vol_below_L m) _ _ _ _=_
   unfold impl_Vol_below_b4
   rw [lt_t (by simpa using hlt),ix_nat (by simpa using hlt)]
   simp only [cond_true,obs,Nat.zero_add]
   rw [hq,impl_inode_eq v q hl]
   simp only [obs]
   rw [hx,inc_i i hib];rfl
  | some x =>
   have hnm:nm v.2.1 q=nmsOf (gd tInode v.2.1 x):=by unfold nm;rw [hx]
   have hnl:=nm_len v.2.1 q
   have inner:=loopEv (nm v.2.1 q).length 1 (fun m j (o:List Int)=>(impl_Vol_below_L m).k9 v (i:Int) (nm v.2.1 q) ((nm v.2.1 q).length:Int) (j:Int) o (id :: o)) (fun j o=>addD o (gd tDirent (nm v.2.1 q) j)) (fun j o=>OutOk v.2.1 id o) (fun j o hj ho=>addD_ok v.2.1 ho hqi (gd_mem' hj)) (fun j o hj ho B y he=>by
    refine he.step fun m=>?_
    have hol:=ho.len
    show impl_Vol_below_b9 (impl_Vol_below_L m) _ _ _ _ _ _ _=_
    unfold impl_Vol_below_b9
    rw [lt_t hj,ix_nat hj]
    simp only [cond_true,obs]
    rw [contains_eq _ _ (by omega)]
    simp only [obs]
    rw [inc_i j (by omega)]
    unfold addD
    by_cases hm:(gd tDirent (nm v.2.1 q) j).2.1∈o
    ·rw [decide_eq_true hm,if_pos hm];rfl
    ·rw [decide_eq_false hm,if_neg hm,room_t (by simp;omega),room_t (by simp;omega)];rfl) out ho (1+r*1048580+1) (some (out',())) (by
    refine f2.step fun m=>?_
    show impl_Vol_below_b9 (impl_Vol_below_L m) _ _ _ _ _ _ _=_
    unfold impl_Vol_below_b9
    rw [lt_f (Nat.le_refl _)]
    simp only [cond_false]
    rw [inc_i i hib];rfl)
   refine(inner.step (f:=fun m=>(impl_Vol_below_L m).k4 v (i:Int) out (id :: out)) fun m=>?_).mono (by omega)
   show impl_Vol_below_b4 (impl_Vol_below_L m) _ _ _ _=_
   unfold impl_Vol_below_b4
   rw [lt_t (by simpa using hlt),ix_nat (by simpa using hlt)]
   simp only [cond_true,obs,Nat.zero_add]
   rw [hq,impl_inode_eq v q hl]
   simp only [obs]
   rw [hx,hnm];rfl
theorem impl_below_eq(v:tVol.D)(hl:v.2.1.length≤1048576)(hn:nmsN v.2.1≤1048576)(id:Int):∃out,Found v.2.1 id out∧impl_Vol_below (v,id,())=some (out,()):=by
 obtain ⟨out,h1,h2⟩:=below_loop v hl hn id (nmsN v.2.1+1) 0 [] (by omega) ⟨by simp,by simp,by simp⟩ (by simp) (fun k hk=>by omega)
 refine⟨out,h1,?_⟩
 show impl_Vol_below_s (impl_Vol_below_L BIG) v id=_
 unfold impl_Vol_below_s
 have hm:(nmsN v.2.1+1)*1048580≤1048577*1048580:=Nat.mul_le_mul_right _ (by omega)
 exact ev_big h2 (by omega)
theorem allEv{β : Type}(n W:Nat)(F:Nat→Nat → β)(P:Nat→Bool)(no E : β)(B:Nat)
  (hs:∀i,i<n→(∀j,j<i→P j=true)→P i=true→∀B y,Ev (fun m=>F m (i+1)) B y→Ev (fun m=>F m i) (B+W) y)
  (hx:∀i,i<n→(∀j,j<i→P j=true)→P i=false→Ev (fun m=>F m i) W no)
  (hend:(∀j,j<n→P j=true)→Ev (fun m=>F m n) B E):Ev (fun m=>F m 0) (B+n*W) (cond (allN n P) E no):=by
 have key:∀r i,i+r=n→(∀j,j<i→P j=true)→Ev (fun m=>F m i) (B+r*W) (cond (allN n P) E no):=by
  intro r
  induction r with
  | zero =>
   intro i hi hp
   have:i=n:=by omega
   subst this
   rw [allN_iff.2 hp]
   simpa using hend hp
  | succ r ih =>
   intro i hi hp
   cases hpi:P i
   ·have:allN n P=false:=by
     rw [← Bool.not_eq_true]
     intro h
     have:=allN_iff.1 h i (by omega)
     rw [hpi] at this;cases this
    rw [this]
    refine(hx i (by omega) hp hpi).mono ?_
    rw [Nat.add_one_mul];omega
   ·have:=hs i (by omega) hp hpi _ _ (ih (i+1) (by omega) fun j hj=>by
     by_cases h:j=i
     ·subst h;exact hpi
     ·exact hp j (by omega))
    rw [Nat.add_one_mul,← Nat.add_assoc]
    exact this
 exact key n 0 (by omega) (by intro j hj;omega)
def maxB(x:Ino):Int:=x.2.2.2.2.2.2.2.1
def maxI(x:Ino):Int:=x.2.2.2.2.2.2.2.2.1
def plain(x:Ino):Bool:=((nmsOf x).length:Int)==0&&maxB x==0&&maxI x==0
def nmP(l:List Ino)(N:List tDirent.D)(j:Nat):Bool :=
 nameOk (gd tDirent N j).1 && !(decide (0<j) && !ltS (gd tDirent N (j-1)).1 (gd tDirent N j).1) && !((gd tDirent N j).2.1==1)&&(iat l (gd tDirent N j).2.1).isSome
def namesOk(l:List Ino)(x:Ino):Bool:=allN (nmsOf x).length (nmP l (nmsOf x))&&decide (((nmsOf x).length:Int)≤12)
def inoOk(l:List Ino)(x:Ino):Bool :=
 inR x.2.2.1 0 2047&&inR x.2.2.2.1 0 1000&&inR x.2.2.2.2.1 0 1000 &&
  cond (x.2.1==1) (plain x&&decide (((dataOf x).length:Int)≤64))
   (cond (x.2.1==3) (plain x&&targetOk (dataOf x)&&x.2.2.1==511)
    (cond (x.2.1==2) (eqS (dataOf x) []&&inR (maxB x) 0 400&&inR (maxI x) 0 24&&namesOk l x) false))
theorem impl_namesOk_eq(v:tVol.D)(x:Ino)(hl:v.2.1.length≤1048576)(hn:(nmsOf x).length≤1048576)(hs:∀d,d∈nmsOf x→d.1.length≤1048576):impl_Vol_namesOk (v,x,())=some (namesOk v.2.1 x,()):=by
 show impl_Vol_namesOk_s (impl_Vol_namesOk_L2 BIG) v x=_
 unfold impl_Vol_namesOk_s namesOk
 refine allL (nmsOf x).length (by omega) (nmP v.2.1 (nmsOf x)) _ (fun m i=>impl_Vol_namesOk_L2 m v (nmsOf x) ((nmsOf x).length:Int) i x) ?_ ?_
 ·intro m _
  simp only [impl_Vol_namesOk_L2,impl_Vol_namesOk_b2]
  rw [lt_f (Nat.le_refl _)];rfl
 ·intro m i hi _ hw
  simp only [impl_Vol_namesOk_L2,impl_Vol_namesOk_b2,hw]
  rw [lt_t hi,ix_nat hi]
  simp only [cond_true,obs]
  rw [impl_NameOk_eq _ (by have:=hs _ (gd_mem' hi);omega)]
  simp only [obs]
  rw [impl_inode_eq v _ hl]
  simp only [obs]
  unfold nmP
  cases i with
  | zero =>
   simp only [gt0_f,Nat.lt_irrefl,decide_false,cond_false,Bool.false_and,Bool.not_false,Bool.and_true]
   cases nameOk (gd tDirent (nmsOf x) 0).1 <;> cases (gd tDirent (nmsOf x) 0).2.1==1 <;> cases (iat v.2.1 (gd tDirent (nmsOf x) 0).2.1) <;> rfl
  | succ i =>
   rw [show(List.length x.2.2.2.2.2.2.1)=(nmsOf x).length from rfl,prev_ix hi (by omega)]
   simp only [gt0_t,Nat.zero_lt_succ,decide_true,cond_true,obs,Nat.add_sub_cancel,Bool.true_and]
   rw [show(gd tDirent x.2.2.2.2.2.2.1 i)=gd tDirent (nmsOf x) i from rfl]
   cases nameOk (gd tDirent (nmsOf x) (i+1)).1 <;> cases (gd tDirent (nmsOf x) (i+1)).2.1==1 <;> cases (iat v.2.1 (gd tDirent (nmsOf x) (i+1)).2.1) <;> cases ltS (gd tDirent (nmsOf x) i).1 (gd tDirent (nmsOf x) (i+1)).1 <;> rfl
theorem spec_names_loop(v:tVol.D)(x:Ino)(hl:v.2.1.length≤1048576)(hn:(nmsOf x).length≤1048576)(q:Nat)(hq:(nmsOf x).length<q):(spec_l4InodeOk_L q).k13 0 v x=some (allN (nmsOf x).length (nmP v.2.1 (nmsOf x)),()):=by
 have:=allL (nmsOf x).length (by omega) (nmP v.2.1 (nmsOf x)) true (fun m i=>(spec_l4InodeOk_L m).k13 i v x) (by
  intro m _
  show spec_l4InodeOk_b13 (spec_l4InodeOk_L m) _ _ _=_
  unfold spec_l4InodeOk_b13
  show cond (decide (((nmsOf x).length:Int)<((nmsOf x).length:Int))) _ _=_
  rw [lt_f (Nat.le_refl _)];rfl) (by
  intro m i hi _ hw
  show spec_l4InodeOk_b13 (spec_l4InodeOk_L m) _ _ _=_
  unfold spec_l4InodeOk_b13
  show cond (decide ((i:Int)<((nmsOf x).length:Int))) ((ix (nmsOf x).length (i:Int)).bind _) _=_
  rw [lt_t hi,ix_nat hi]
  simp only [cond_true,obs,hw]
  rw [spec_NameOk_eq]
  simp only [obs]
  rw [spec_At_eq v _ hl]
  simp only [obs,optI_neg]
  unfold nmP
  rw [show(x.2.2.2.2.2.2.1)=nmsOf x from rfl]
  cases i with
  | zero =>
   simp only [gt0_f,Nat.lt_irrefl,decide_false,cond_false,Bool.false_and,Bool.not_false,Bool.and_true]
   cases nameOk (gd tDirent (nmsOf x) 0).1 <;> cases (gd tDirent (nmsOf x) 0).2.1==1 <;> cases (iat v.2.1 (gd tDirent (nmsOf x) 0).2.1) <;> rfl
  | succ i =>
   rw [prev_ix hi (by omega)]
   simp only [gt0_t,Nat.zero_lt_succ,decide_true,cond_true,obs,Nat.add_sub_cancel,Bool.true_and]
   cases nameOk (gd tDirent (nmsOf x) (i+1)).1 <;> cases (gd tDirent (nmsOf x) (i+1)).2.1==1 <;> cases (iat v.2.1 (gd tDirent (nmsOf x) (i+1)).2.1) <;> cases ltS (gd tDirent (nmsOf x) i).1 (gd tDirent (nmsOf x) (i+1)).1 <;> rfl) q hq
 rw [Bool.and_true] at this
 exact this
theorem spec_inoOk_eq(v:tVol.D)(x:Ino)(hl:v.2.1.length≤1048576)(hn:(nmsOf x).length≤1048576):spec_l4InodeOk (v,x,())=some (inoOk v.2.1 x,()):=by
 obtain ⟨q,hq,hq2⟩:=big_pred 1
 show spec_l4InodeOk_s (spec_l4InodeOk_L BIG) v x=_
 rw [hq]
 unfold spec_l4InodeOk_s
 have hk:∀b,(spec_l4InodeOk_L (q+1)).k4 b v x=spec_l4InodeOk_b4 (spec_l4InodeOk_L q) b v x:=fun _=>rfl
 simp only [hk]
 unfold spec_l4InodeOk_b4
 rw [spec_names_loop v x hl hn q (by omega),spec_Target_eq]
 simp only [l1In_eq,obs,cond_some]
 congr 2
 unfold inoOk namesOk plain maxB maxI dataOf
 rw [show(x.2.2.2.2.2.2.1)=nmsOf x from rfl]
 generalize allN (nmsOf x).length (nmP v.2.1 (nmsOf x))=A
 generalize targetOk x.2.2.2.2.2.1=T0
 generalize eqS x.2.2.2.2.2.1 []=S0
 generalize x.2.2.2.2.2.1.length=D0
 generalize (nmsOf x).length=N0
 generalize x.2.2.2.2.2.2.2.1=B0
 generalize x.2.2.2.2.2.2.2.2.1=I0
 simp only [inR]
 rw [Bool.eq_iff_iff]
 simp only [Bool.cond_eq_ite,Bool.ite_eq_true_distrib,Bool.and_eq_true,Bool.or_eq_true,Bool.not_eq_true',decide_eq_true_eq,beq_iff_eq,decide_eq_false_iff_not]
 grind (splits:=60)
theorem impl_inoOk_eq(v:tVol.D)(x:Ino)(hl:v.2.1.length≤1048576)(hn:(nmsOf x).length≤1048576)(hs:∀d,d∈nmsOf x→d.1.length≤1048576)(hd:(dataOf x).length≤1048576):impl_Vol_inodeOk (v,x,())=some (inoOk v.2.1 x,()):=by
 obtain ⟨q,hq,hq2⟩:=big_pred 1
 show impl_Vol_inodeOk_s (impl_Vol_inodeOk_L5 BIG) v x=_
 rw [hq]
 unfold impl_Vol_inodeOk_s
 simp only [impl_Vol_inodeOk_L5,impl_Vol_inodeOk_b5]
 rw [impl_namesOk_eq v x hl hn hs,impl_Target_eq _ (by unfold dataOf at hd;omega)]
 simp only [within_eq,obs,cond_some]
 congr 2
 unfold inoOk namesOk plain maxB maxI dataOf
 rw [show(x.2.2.2.2.2.2.1)=nmsOf x from rfl]
 generalize allN (nmsOf x).length (nmP v.2.1 (nmsOf x))=A
 generalize targetOk x.2.2.2.2.2.1=T0
 generalize eqS x.2.2.2.2.2.1 []=S0
 generalize x.2.2.2.2.2.1.length=D0
 generalize (nmsOf x).length=N0
 generalize x.2.2.2.2.2.2.2.1=B0
 generalize x.2.2.2.2.2.2.2.2.1=I0
 simp only [inR]
 rw [Bool.eq_iff_iff]
 simp only [Bool.cond_eq_ite,Bool.ite_eq_true_distrib,Bool.and_eq_true,Bool.or_eq_true,Bool.not_eq_true',decide_eq_true_eq,beq_iff_eq,bne_iff_ne,decide_eq_false_iff_not]
 grind (splits:=60)
section
variable(l:List Ino)
def inL(F:Flags):List Nat:=(List.range l.length).filter fun i=>gd .bool F i
def dl(i:Nat):Nat:=(dataOf (gd tInode l i)).length
def useB(F:Flags):Nat:=((inL l F).map (dl l)).sum
def useN(F:Flags):Nat:=(inL l F).length
def pre(F:Flags)(i:Nat):List Nat:=(List.range i).filter fun i=>gd .bool F i
theorem pre_succ(F:Flags)(i:Nat):pre F (i+1)=pre F i++cond (gd .bool F i) [i] []:=by
 unfold pre
 rw [List.range_succ,List.filter_append]
 cases h:gd .bool F i <;> simp [List.filter_cons,h]
theorem pre_sum(F:Flags){i:Nat}(hi:i≤l.length):((pre F i).map (dl l)).sum≤bytesOf (l.take i)∧(pre F i).length≤i:=by
 induction i with
 | zero=>simp [pre]
 | succ i ih =>
  obtain ⟨h1,h2⟩:=ih (by omega)
  rw [pre_succ,bytes_take (by omega)]
  cases gd .bool F i
  ·simp only [cond_false,List.append_nil];omega
  ·simp only [cond_true,List.map_append,List.sum_append_nat,List.length_append,List.map_cons,List.map_nil,List.sum_cons,List.sum_nil,List.length_cons,List.length_nil]
   have:dl l i=(dataOf (gd tInode l i)).length:=rfl
   omega
end
theorem spec_Usage_eq(v:tVol.D)(id:Int)(hl:v.2.1.length≤1048576)(hn:nmsN v.2.1≤1048576)(hb:bytesOf v.2.1≤1048576) :
  spec_l4Usage (v,id,())=some ((useB v.2.1 (belowF v.2.1 id):Int),(useN v.2.1 (belowF v.2.1 id):Int),()):=by
 show spec_l4Usage_s (spec_l4Usage_L5 BIG) v id=_
 unfold spec_l4Usage_s
 rw [spec_Below_eq v id hl hn]
 simp only [obs]
 have hF:=belowF_len v.2.1 id
 generalize belowF v.2.1 id=F at *
 have:=lpI v.2.1.length (by omega) (fun m i=>spec_l4Usage_L5 m (((pre F i.toNat).map (dl v.2.1)).sum:Nat) ((pre F i.toNat).length:Nat) i v F) (fun _=>some ((useB v.2.1 F:Int),(useN v.2.1 F:Int),())) (fun _=>True) (fun m _=>by
  simp only [spec_l4Usage_L5,spec_l4Usage_b5]
  rw [hF,lt_f (Nat.le_refl _)];rfl) (fun m i hi _ hw ih=>by
  have ih:=ih trivial
  simp only [spec_l4Usage_L5,spec_l4Usage_b5,hw]
  rw [hF,lt_t hi,ix_nat hi]
  simp only [cond_true,obs,Int.toNat_natCast,Nat.zero_add]
  rw [show((i:Int)+1).toNat=i+1 by omega,pre_succ] at ih
  have h1:=pre_sum v.2.1 F (i:=i) (by omega)
  have h3:=pre_sum v.2.1 F (i:=i+1) (by omega)
  have h2:=bytes_le v.2.1 (i+1)
  rw [pre_succ] at h3
  cases hf:gd .bool F i
  ·rw [hf] at ih
   simp only [cond_false,List.append_nil] at ih ⊢
   exact ih
  ·rw [hf] at ih h3
   simp only [cond_true,List.map_append,List.sum_append_nat,List.length_append,List.map_cons,List.map_nil,List.sum_cons,List.sum_nil,List.length_cons,List.length_nil,Nat.add_zero,Nat.zero_add] at ih h3 ⊢
   rw [show((gd tInode v.2.1 i).2.2.2.2.2.1).length=dl v.2.1 i from rfl,inc_i _ (by omega),w64_sm (by omega) (by omega),← Int.natCast_add]
   exact ih) v.2.1.length 0 BIG (by omega) (big_gt (by omega)) trivial
 simpa [pre] using this
def dI(l:List Ino)(b:Int):Nat :=
 match iat l b with
 | none=>0
 | some i=>dl l i
theorem dI_le{l:List Ino}(b:Int):dI l b≤bytesOf l:=by
 unfold dI
 split
 ·omega
 ·rename_i i hi
  have h1:=bytes_take (iat_lt hi).1
  have h2:=bytes_le l (i+1)
  unfold dl
  omega
theorem impl_usage_eq(v:tVol.D)(id:Int)(hl:v.2.1.length≤1048576)(hn:nmsN v.2.1≤1048576)(hb:bytesOf v.2.1≤1048576) :
  ∃out,Found v.2.1 id out∧impl_Vol_usage (v,id,())=some ((((out.map (dI v.2.1)).sum:Nat):Int),(out.length:Int),()):=by
 obtain ⟨out,hf,he⟩:=impl_below_eq v hl hn id
 refine⟨out,hf,?_⟩
 show impl_Vol_usage_s (impl_Vol_usage_L4 BIG) v id=_
 unfold impl_Vol_usage_s
 rw [he]
 simp only [obs]
 have hol:=hf.len
 have hb2:∀i,i≤out.length→((out.take i).map (dI v.2.1)).sum≤i*1048576:=by
  intro i
  induction i with
  | zero=>intro _;simp
  | succ i ih =>
   intro hi
   rw [List.take_succ_eq_append_getElem (by omega),List.map_append,List.sum_append_nat]
   have:=ih (by omega)
   have:=dI_le (l:=v.2.1) out[i]
   simp only [List.map_cons,List.map_nil,List.sum_cons,List.sum_nil]
   omega
 have:=lpI out.length (by omega) (fun m i=>impl_Vol_usage_L4 m v (((out.take i.toNat).map (dI v.2.1)).sum:Nat) (out.length:Int) i out) (fun _=>some ((((out.map (dI v.2.1)).sum:Nat):Int),(out.length:Int),())) (fun _=>True) (fun m _=>by
  simp only [impl_Vol_usage_L4,impl_Vol_usage_b4]
  rw [lt_f (Nat.le_refl _)]
  simp only [Int.toNat_natCast,List.take_length,cond_false]) (fun m i hi _ hw ih=>by
  have ih:=ih trivial
  simp only [impl_Vol_usage_L4,impl_Vol_usage_b4,hw]
  rw [lt_t hi,ix_nat hi]
  simp only [cond_true,obs,Int.toNat_natCast,Nat.zero_add]
  rw [impl_inode_eq v _ hl]
  simp only [obs]
  rw [show((i:Int)+1).toNat=i+1 by omega,List.take_succ_eq_append_getElem hi,List.map_append,List.sum_append_nat] at ih
  simp only [List.map_cons,List.map_nil,List.sum_cons,List.sum_nil,Nat.add_zero] at ih
  have hg:gd (.int .i64) out i=out[i]:=gd_eq (t:=.int .i64) hi
  rw [hg]
  have h2:=hb2 i (by omega)
  have h3:=dI_le (l:=v.2.1) out[i]
  have h4:i*1048576≤1048576*1048576:=Nat.mul_le_mul_right _ (by omega)
  unfold dI at ih h3
  cases hx:iat v.2.1 out[i] with
  | none =>
   rw [hx] at ih
   exact ih
  | some x =>
   rw [hx] at ih h3
   show impl_Vol_usage_L4 m v (w64 (_ +(((gd tInode v.2.1 x).2.2.2.2.2.1).length:Int))) _ _ _=_
   have h3:dl v.2.1 x≤bytesOf v.2.1:=h3
   have ih:impl_Vol_usage_L4 m v ((List.map (dI v.2.1) (out.take i)).sum+dl v.2.1 x:Nat) (out.length:Int) ((i:Int)+1) out=_:=ih
   rw [show((gd tInode v.2.1 x).2.2.2.2.2.1).length=dl v.2.1 x from rfl,w64_sm (by omega) (by omega),← Int.natCast_add]
   exact ih) out.length 0 BIG (by omega) (big_gt (by omega)) trivial
 simpa using this
theorem found_use{l:List Ino}(hd:Dist l)(hx:Exs l){id:Int}{out:List Int}(h:Found l id out):(out.map (dI l)).sum=useB l (belowF l id)∧out.length=useN l (belowF l id):=by
 have hnd:((inL l (belowF l id)).map fun i=>(gd tInode l i).1).Nodup:=by
  have h0:(inL l (belowF l id)).Nodup:=(List.nodup_range).filter _
  unfold List.Nodup at h0 ⊢
  rw [List.pairwise_map]
  refine h0.imp_of_mem fun {a b} ha hb hab he=>hab ?_
  have ha:=(List.mem_filter.1 ha).1
  have hb:=(List.mem_filter.1 hb).1
  have h1:=hd a (by simpa using ha)
  have h2:=hd b (by simpa using hb)
  rw [he,h2] at h1
  exact(osj h1).symm
 have hp:out.Perm ((inL l (belowF l id)).map fun i=>(gd tInode l i).1):=by
  rw [List.perm_ext_iff_of_nodup h.nd hnd]
  intro b
  rw [h.iff]
  constructor
  ·intro hb
   have hex:∃i,iat l b=some i:=by
    cases hb with
    | single he=>obtain ⟨i,d,h1,h2,rfl⟩:=he;exact Option.isSome_iff_exists.1 (hx i (iat_lt h1).1 d h2)
    | tail _ he=>obtain ⟨i,d,h1,h2,rfl⟩:=he;exact Option.isSome_iff_exists.1 (hx i (iat_lt h1).1 d h2)
   obtain ⟨i,hi⟩:=hex
   obtain ⟨h1,h2⟩:=iat_lt hi
   refine List.mem_map.2 ⟨i,List.mem_filter.2 ⟨by simpa using h1,?_⟩,h2⟩
   exact(belowF_iff l hd id h1).2 (by rw [h2];exact hb)
  ·intro hb
   obtain ⟨i,hi,rfl⟩:=List.mem_map.1 hb
   obtain ⟨h1,h2⟩:=List.mem_filter.1 hi
   exact(belowF_iff l hd id (by simpa using h1)).1 h2
 refine⟨?_,by rw [hp.length_eq,List.length_map];rfl⟩
 rw [(hp.map (dI l)).sum_nat,List.map_map]
 unfold useB
 congr 1
 refine List.map_congr_left fun i hi=>?_
 have h1:=(List.mem_filter.1 hi).1
 show dI l (gd tInode l i).1=dl l i
 unfold dI
 rw [hd i (by simpa using h1)]
def ovP(l:List Ino)(x:Ino):Bool :=
 (decide (maxB x>0)&&decide ((useB l (belowF l x.1):Int)>maxB x))||(decide (maxI x>0)&&decide ((useN l (belowF l x.1):Int)>maxI x))
def overAny(l:List Ino):Bool:=cond (allN l.length fun i => !ovP l (gd tInode l i)) false true
theorem impl_isOver_eq(v:tVol.D)(x:Ino)(hl:v.2.1.length≤1048576)(hn:nmsN v.2.1≤1048576)(hb:bytesOf v.2.1≤1048576)(hd:Dist v.2.1)(hx:Exs v.2.1):impl_Vol_isOver (v,x,())=some (ovP v.2.1 x,()):=by
 show impl_Vol_isOver_s v x=_
 unfold impl_Vol_isOver_s
 obtain ⟨out,hf,he⟩:=impl_usage_eq v x.1 hl hn hb
 rw [he]
 obtain ⟨h1,h2⟩:=found_use hd hx hf
 rw [h1,h2]
 simp only [obs,cond_some]
 congr 2
 unfold ovP maxB maxI
 generalize (useB v.2.1 (belowF v.2.1 x.1):Int)=B
 generalize (useN v.2.1 (belowF v.2.1 x.1):Int)=N
 rw [Bool.eq_iff_iff]
 simp only [Bool.cond_eq_ite,Bool.ite_eq_true_distrib,Bool.and_eq_true,Bool.or_eq_true,decide_eq_true_eq]
 grind
theorem impl_over_eq(v:tVol.D)(hl:v.2.1.length≤1048576)(hn:nmsN v.2.1≤1048576)(hb:bytesOf v.2.1≤1048576)(hd:Dist v.2.1)(hx:Exs v.2.1):slices_ContainsFunc_impl_Inode_impl_Inode_impl_Vol_isOver (v.2.1,v,())=some (overAny v.2.1,()):=by
 show slices_ContainsFunc_impl_Inode_impl_Inode_impl_Vol_isOver_s v.2.1 v=_
 unfold slices_ContainsFunc_impl_Inode_impl_Inode_impl_Vol_isOver_s
 have h:slices_IndexFunc_impl_Inode_impl_Inode_impl_Vol_isOver (v.2.1,v,())=some (optI (fnd v.2.1.length fun i=>ovP v.2.1 (gd tInode v.2.1 i)),()):=by
  show slices_IndexFunc_impl_Inode_impl_Inode_impl_Vol_isOver_s (slices_IndexFunc_impl_Inode_impl_Inode_impl_Vol_isOver_L2 BIG) v.2.1 v=_
  unfold slices_IndexFunc_impl_Inode_impl_Inode_impl_Vol_isOver_s
  refine fndL v.2.1.length (by omega) _ (fun o=>some (optI o,())) (fun m i=>slices_IndexFunc_impl_Inode_impl_Inode_impl_Vol_isOver_L2 m v.2.1 v (v.2.1.length:Int) i) ?_ ?_
  ·intro m
   simp only [slices_IndexFunc_impl_Inode_impl_Inode_impl_Vol_isOver_L2,slices_IndexFunc_impl_Inode_impl_Inode_impl_Vol_isOver_b2]
   rw [lt_f (Nat.le_refl _)];rfl
  ·intro m i hi hw
   simp only [slices_IndexFunc_impl_Inode_impl_Inode_impl_Vol_isOver_L2,slices_IndexFunc_impl_Inode_impl_Inode_impl_Vol_isOver_b2,hw]
   rw [lt_t hi,ix_nat hi]
   simp only [cond_true,obs]
   rw [impl_isOver_eq v _ hl hn hb hd hx];rfl
 rw [h]
 simp only [obs,optI_ge]
 congr 2
 unfold overAny
 cases hf:fnd v.2.1.length fun i=>ovP v.2.1 (gd tInode v.2.1 i) with
 | none =>
  rw [allN_iff.2 (fun i hi=>by rw [fnd_none.1 hf i hi];rfl)];rfl
 | some i =>
  obtain ⟨h1,h2,_⟩:=fnd_some.1 hf
  have:allN v.2.1.length (fun i => !ovP v.2.1 (gd tInode v.2.1 i))=false:=by
   rw [← Bool.not_eq_true];intro h
   have:=allN_iff.1 h i h1
   rw [h2] at this;cases this
  rw [this];rfl
theorem spec_Over_eq(v:tVol.D)(hl:v.2.1.length≤1048576)(hn:nmsN v.2.1≤1048576)(hb:bytesOf v.2.1≤1048576)(hk:∀i,i<v.2.1.length→(gd tInode v.2.1 i).2.1≠2→maxB (gd tInode v.2.1 i)=0∧maxI (gd tInode v.2.1 i)=0):spec_l4Over (v,())=some (overAny v.2.1,()):=by
 show spec_l4Over_s (spec_l4Over_L BIG) v=_
 unfold spec_l4Over_s
 have h0:∀x:Ino,maxB x=0→maxI x=0→ovP v.2.1 x=false:=by
  intro x h1 h2;unfold ovP;rw [h1,h2];rfl
 have hstep:∀(m i:Nat),i<v.2.1.length→(spec_l4Over_L (m+1)).k2 (i:Int) v=cond ((gd tInode v.2.1 i).2.1 != 2) ((spec_l4Over_L m).k2 ((i+1:Nat):Int) v) (cond (maxB (gd tInode v.2.1 i)==0) (cond (maxI (gd tInode v.2.1 i)==0) ((spec_l4Over_L m).k2 ((i+1:Nat):Int) v) ((spec_l4Over_L m).k6 (i:Int) v (gd tInode v.2.1 i))) ((spec_l4Over_L m).k6 (i:Int) v (gd tInode v.2.1 i))):=by
  intro m i hi
  show spec_l4Over_b2 (spec_l4Over_L m) _ _=_
  unfold spec_l4Over_b2
  rw [lt_t hi,ix_nat hi]
  simp only [cond_true,obs]
  rw [inc_i i (by omega)];rfl
 have hsix:∀(m i:Nat) (x:Ino),i<v.2.1.length→(spec_l4Over_L (m+1)).k6 (i:Int) v x=cond (ovP v.2.1 x) (some (true,())) ((spec_l4Over_L m).k2 ((i+1:Nat):Int) v):=by
  intro m i x hi
  show spec_l4Over_b6 (spec_l4Over_L m) _ _ _=_
  unfold spec_l4Over_b6
  rw [spec_Usage_eq v _ hl hn hb]
  simp only [obs]
  rw [inc_i i (by omega)]
  unfold ovP maxB maxI
  generalize decide (x.2.2.2.2.2.2.2.1>0)=a
  generalize decide ((useB v.2.1 (belowF v.2.1 x.1):Int)>x.2.2.2.2.2.2.2.1)=b
  generalize decide (x.2.2.2.2.2.2.2.2.1>0)=c
  generalize decide ((useN v.2.1 (belowF v.2.1 x.1):Int)>x.2.2.2.2.2.2.2.2.1)=d
  cases a <;> cases b <;> cases c <;> cases d <;> rfl
 have key:=allEv v.2.1.length 2 (fun m i=>(spec_l4Over_L m).k2 (i:Int) v) (fun i => !ovP v.2.1 (gd tInode v.2.1 i)) (some (true,())) (some (false,())) 1 (fun i hi _ hp B y he=>by
  have hp:ovP v.2.1 (gd tInode v.2.1 i)=false:=by simpa using hp
  have h6:Ev (fun m=>(spec_l4Over_L m).k6 (i:Int) v (gd tInode v.2.1 i)) (B+1) y:=he.step fun m=>by rw [hsix m i _ hi,hp];rfl
  intro m hm
  obtain ⟨m,rfl⟩:∃k,m=k+1:=⟨m-1,by omega⟩
  show(spec_l4Over_L (m+1)).k2 (i:Int) v=y
  rw [hstep m i hi]
  have e1:=he m (by omega)
  have e2:=h6 m (by omega)
  simp only at e1 e2
  rw [e1,e2]
  cases (gd tInode v.2.1 i).2.1 != 2 <;> cases maxB (gd tInode v.2.1 i)==0 <;> cases maxI (gd tInode v.2.1 i)==0 <;> rfl) (fun i hi _ hp=>by
  have hp:ovP v.2.1 (gd tInode v.2.1 i)=true:=by simpa using hp
  intro m hm
  obtain ⟨m,rfl⟩:∃k,m=k+2:=⟨m-2,by omega⟩
  show(spec_l4Over_L (m+1+1)).k2 (i:Int) v=_
  rw [hstep (m+1) i hi,hsix m i _ hi,hp]
  have k1:((gd tInode v.2.1 i).2.1 != 2)=false:=by
   rw [bne_eq_false_iff_eq]
   by_cases h:(gd tInode v.2.1 i).2.1=2
   ·exact h
   ·obtain ⟨g1,g2⟩:=hk i hi h
    rw [h0 _ g1 g2] at hp;cases hp
  rw [k1]
  cases g1:maxB (gd tInode v.2.1 i)==0 <;> cases g2:maxI (gd tInode v.2.1 i)==0 <;> try rfl
  rw [h0 _ (by simpa using g1) (by simpa using g2)] at hp;cases hp) (fun _=>Ev.done fun m=>by
  show spec_l4Over_b2 (spec_l4Over_L m) _ _=_
  unfold spec_l4Over_b2
  rw [lt_f (Nat.le_refl _)];rfl)
 have:=ev_big key (by omega)
 rw [show(((0:Nat):Int))=0 from rfl] at this
 rw [this]
 unfold overAny
 cases allN v.2.1.length fun i => !ovP v.2.1 (gd tInode v.2.1 i) <;> rfl
theorem sum_le{α : Type}{f g : α → Nat} : ∀(l:List α),(∀x,x∈l→f x≤g x)→(l.map f).sum≤(l.map g).sum
 | [],_=>by simp
 | x :: l,h=>by
  simp only [List.map_cons,List.sum_cons]
  have:=sum_le l fun y hy=>h y (List.mem_cons_of_mem _ hy)
  have:=h x List.mem_cons_self
  omega
theorem le_sum{α : Type}{f : α → Nat} : ∀ {l:List α} {x : α},x∈l→f x≤(l.map f).sum
 | y :: l,x,h=>by
  simp only [List.map_cons,List.sum_cons]
  rcases List.mem_cons.1 h with rfl | h
  ·omega
  ·have:=le_sum (f:=f) h;omega
theorem ino_cost(x:Ino):Ty.cost tInode x=(dataOf x).length+Ty.cost (.sl tDirent) (nmsOf x):=by
 simp only [cost_st,cost_cons,cost_nil,cost_int,cost_bool,cost_str,Nat.zero_add,Nat.add_zero];rfl
theorem dir_cost(d:tDirent.D):Ty.cost tDirent d=d.1.length:=by
 simp only [cost_st,cost_cons,cost_nil,cost_int,cost_bool,cost_str,Nat.zero_add,Nat.add_zero]
def costI(x:Ino):Nat:=Ty.cost tInode x
theorem vol_cost(v:tVol.D):Ty.cost tVol v=v.2.1.length +(v.2.1.map costI).sum:=by
 have h:Ty.cost tVol v=Ty.cost (.sl tInode) v.2.1:=by simp only [cost_st,cost_cons,cost_nil,cost_int,Nat.zero_add,Nat.add_zero]
 rw [h,cost_sl]
 rfl
structure VB(v:tVol.D):Prop where
 len:v.2.1.length≤1048576
 nms:nmsN v.2.1≤1048576
 bytes:bytesOf v.2.1≤1048576
 each:∀x,x∈v.2.1→(nmsOf x).length≤1048576∧(dataOf x).length≤1048576∧∀d,d∈nmsOf x→d.1.length≤1048576
theorem vb_of{v:tVol.D}(h:Ty.cost tVol v≤1048576):VB v:=by
 rw [vol_cost] at h
 refine⟨by omega,?_,?_,fun x hx=>?_⟩
 ·have:=sum_le (f:=fun y:Ino=>(nmsOf y).length) (g:=costI) v.2.1 fun x _=>by
   unfold costI;rw [ino_cost];have:=cost_len (t:=tDirent) (nmsOf x);omega
  unfold nmsN;omega
 ·have:=sum_le (f:=fun y:Ino=>(dataOf y).length) (g:=costI) v.2.1 fun x _=>by
   unfold costI;rw [ino_cost];omega
  unfold bytesOf;omega
 ·have h1:=le_sum (f:=costI) hx
  unfold costI at h1
  rw [ino_cost] at h1
  have h:v.2.1.length +(v.2.1.map fun y=>Ty.cost tInode y).sum≤1048576:=h
  have h1:(dataOf x).length+Ty.cost (.sl tDirent) (nmsOf x)≤(v.2.1.map fun y=>Ty.cost tInode y).sum:=h1
  have h2:=cost_len (t:=tDirent) (nmsOf x)
  refine⟨by omega,by omega,fun d hd=>?_⟩
  obtain ⟨i,hi,he⟩:=mem_gd hd
  have h3:=cost_get (t:=tDirent) hi
  rw [he,dir_cost] at h3
  omega
def v1P(v:tVol.D)(i:Nat):Bool :=
 inR (gd tInode v.2.1 i).1 1 (w64 (v.1-1)) && !(decide (0<i)&&decide ((gd tInode v.2.1 (i-1)).1≥(gd tInode v.2.1 i).1))&&inoOk v.2.1 (gd tInode v.2.1 i)
def v2P(l:List Ino)(i:Nat):Bool :=
 gd .bool (belowF l 1) (i+1) && !((gd tInode l (i+1)).2.1==2&&((namedN l (gd tInode l (i+1)).1:Int) != 1))
def volOk(v:tVol.D):Bool :=
 inR v.1 2 100000&&inR (v.2.1.length:Int) 1 24&&(gd tInode v.2.1 0).1==1&&(gd tInode v.2.1 0).2.1==2 &&
  cond (allN v.2.1.length (v1P v)) (cond (allN (v.2.1.length-1) (v2P v.2.1)) (decide ((bytesOf v.2.1:Int)≤400) && !overAny v.2.1) false) false
theorem dist_of{v:tVol.D}(h:∀j,j<v.2.1.length→v1P v j=true):Dist v.2.1:=by
 have hlt:∀d j,j+d+1<v.2.1.length→(gd tInode v.2.1 j).1<(gd tInode v.2.1 (j+d+1)).1:=by
  have h1:∀j,j+1<v.2.1.length→(gd tInode v.2.1 j).1<(gd tInode v.2.1 (j+1)).1:=by
   intro j hj
   have:=h (j+1) hj
   unfold v1P at this
   simp only [Bool.and_eq_true,Bool.not_eq_true',Bool.and_eq_false_iff,decide_eq_false_iff_not] at this
   obtain ⟨⟨_,h2⟩,_⟩:=this
   rcases h2 with h2 | h2
   ·omega
   ·rw [Nat.add_sub_cancel] at h2;exact Int.not_le.1 h2
  intro d
  induction d with
  | zero=>intro j hj;exact h1 j hj
  | succ d ih=>intro j hj;exact Int.lt_trans (ih j (by omega)) (h1 (j+d+1) hj)
 intro x hx
 unfold iat
 rw [fnd_some]
 refine⟨hx,by simp,fun j hj=>?_⟩
 obtain ⟨d,rfl⟩:∃d,x=j+d+1:=⟨x-j-1,by omega⟩
 have:=hlt d j hx
 rw [beq_eq_false_iff_ne]
 exact Int.ne_of_lt this
theorem ok_of{v:tVol.D}(h:∀j,j<v.2.1.length→v1P v j=true){i:Nat}(hi:i<v.2.1.length):inoOk v.2.1 (gd tInode v.2.1 i)=true:=by
 have:=h i hi
 unfold v1P at this
 simp only [Bool.and_eq_true] at this
 exact this.2
theorem ino_kind{l:List Ino}{x:Ino}(h:inoOk l x=true):(x.2.1≠2→maxB x=0∧maxI x=0∧nmsOf x=[])∧∀d,d∈nmsOf x→(iat l d.2.1).isSome=true:=by
 unfold inoOk at h
 simp only [Bool.and_eq_true] at h
 obtain ⟨_,h⟩:=h
 have hp:plain x=true→maxB x=0∧maxI x=0∧nmsOf x=[]:=by
  intro hp
  unfold plain at hp
  simp only [Bool.and_eq_true,beq_iff_eq] at hp
  exact⟨hp.1.2,hp.2,List.length_eq_zero_iff.1 (by omega)⟩
 by_cases h1:x.2.1=1
 ·rw [beq_t h1] at h
  simp only [cond_true,Bool.and_eq_true] at h
  obtain ⟨p1,p2,p3⟩:=hp h.1
  exact⟨fun _=>⟨p1,p2,p3⟩,by rw [p3];simp⟩
 ·rw [beq_f h1] at h
  by_cases h3:x.2.1=3
  ·rw [beq_t h3] at h
   simp only [cond_true,cond_false,Bool.and_eq_true] at h
   obtain ⟨p1,p2,p3⟩:=hp h.1.1
   exact⟨fun _=>⟨p1,p2,p3⟩,by rw [p3];simp⟩
  ·rw [beq_f h3] at h
   by_cases h2:x.2.1=2
   ·rw [beq_t h2] at h
    simp only [cond_true,cond_false,Bool.and_eq_true] at h
    refine⟨fun hn=>absurd h2 hn,fun d hd=>?_⟩
    have hN:=h.2
    unfold namesOk at hN
    simp only [Bool.and_eq_true] at hN
    obtain ⟨i,hi,he⟩:=mem_gd hd
    have:=allN_iff.1 hN.1 i hi
    unfold nmP at this
    simp only [Bool.and_eq_true] at this
    rw [← he];exact this.2
   ·rw [beq_f h2] at h
    simp at h
theorem exs_of{v:tVol.D}(h:∀j,j<v.2.1.length→v1P v j=true):Exs v.2.1:=fun i hi d hd=>(ino_kind (ok_of h hi)).2 d hd
theorem v1_cond{v:tVol.D}{i:Nat}(hi:i<v.2.1.length)(hl:v.2.1.length≤1048576)(K:Option (Bool×Unit)) :
  cond (!inR (gd tInode v.2.1 i).1 1 (w64 (v.1-1))) (some (false,()))
   (cond (decide ((i:Int)>0)) ((ix v.2.1.length (w64 ((i:Int)-1))).bind fun j=>cond (decide ((gd tInode v.2.1 j).1≥(gd tInode v.2.1 i).1)) (some (false,())) (cond (!inoOk v.2.1 (gd tInode v.2.1 i)) (some (false,())) K))
    (cond (!inoOk v.2.1 (gd tInode v.2.1 i)) (some (false,())) K))=cond (v1P v i) K (some (false,())):=by
 unfold v1P
 cases i with
 | zero =>
  simp only [gt0_f,Nat.lt_irrefl,decide_false,cond_false,Bool.false_and,Bool.not_false,Bool.and_true,cond_and',cond_not']
 | succ i =>
  rw [prev_ix hi (by omega)]
  simp only [gt0_t,Nat.zero_lt_succ,decide_true,cond_true,obs,Nat.add_sub_cancel,Bool.true_and,cond_and',cond_not']
theorem spec_VolOk_eq(v:tVol.D)(hv:VB v):spec_VolOk (v,())=some (volOk v,()):=by
 obtain ⟨hl,hn,hb,he⟩:=hv
 show spec_VolOk_s (spec_VolOk_L BIG) v=_
 unfold spec_VolOk_s
 simp only [l1In_eq,obs]
 unfold volOk
 cases h1:inR v.1 2 100000
 ·rfl
 cases h2:inR (v.2.1.length:Int) 1 24
 ·rfl
 have hpos:=(inR_iff.1 h2)
 simp only [Bool.not_true,cond_false]
 rw [show(0:Int)=((0:Nat):Int) from rfl,ix_nat (show 0<v.2.1.length by omega)]
 simp only [obs]
 cases h3:(gd tInode v.2.1 0).1==1
 ·rw [bne_t (by simpa using h3)];rfl
 rw [bne_f (by simpa using h3)]
 simp only [cond_false]
 cases h4:(gd tInode v.2.1 0).2.1==2
 ·rw [bne_t (by simpa using h4)];rfl
 rw [bne_f (by simpa using h4)]
 simp only [cond_false,Bool.true_and]
 have key:=allEv v.2.1.length 1 (fun m i=>(spec_VolOk_L m).k4 (i:Int) v) (v1P v) (some (false,())) (some (cond (allN (v.2.1.length-1) (v2P v.2.1)) (decide ((bytesOf v.2.1:Int)≤400) && !overAny v.2.1) false,())) (1 +(v.2.1.length-1)*1+1) (fun i hi _ hp B y hy=>by
  refine hy.step fun m=>?_
  show spec_VolOk_b4 (spec_VolOk_L m) _ _=_
  unfold spec_VolOk_b4
  rw [lt_t hi,ix_nat hi]
  simp only [cond_true,obs,l1In_eq]
  have hx:=he _ (gd_mem' hi)
  rw [spec_inoOk_eq v _ hl hx.1,inc_i i (by omega)]
  simp only [obs]
  rw [v1_cond hi hl,hp];rfl) (fun i hi _ hp=>by
  refine Ev.done fun m=>?_
  show spec_VolOk_b4 (spec_VolOk_L m) _ _=_
  unfold spec_VolOk_b4
  rw [lt_t hi,ix_nat hi]
  simp only [cond_true,obs,l1In_eq]
  have hx:=he _ (gd_mem' hi)
  rw [spec_inoOk_eq v _ hl hx.1,inc_i i (by omega)]
  simp only [obs]
  rw [v1_cond hi hl,hp];rfl) (fun hall=>by
  have hF:=belowF_len v.2.1 1
  have k2:=allEv (v.2.1.length-1) 1 (fun m i=>(spec_VolOk_L m).k11 ((i+1:Nat):Int) v (belowF v.2.1 1)) (v2P v.2.1) (some (false,())) (some (decide ((bytesOf v.2.1:Int)≤400) && !overAny v.2.1,())) 1 (fun i hi _ hp B y hy=>by
   refine hy.step fun m=>?_
   show spec_VolOk_b11 (spec_VolOk_L m) _ _ _=_
   unfold spec_VolOk_b11
   have hi1:i+1<v.2.1.length:=by omega
   rw [lt_t hi1,ix_nat hi1,hF,ix_nat hi1]
   simp only [cond_true,obs,Nat.zero_add]
   rw [spec_Named_eq v _ hl hn,inc_i (i+1) (by omega)]
   simp only [obs]
   unfold v2P at hp
   simp only [Bool.and_eq_true,Bool.not_eq_true'] at hp
   rw [hp.1]
   have hp2:=hp.2
   cases g1:(gd tInode v.2.1 (i+1)).2.1==2
   ·rfl
   ·rw [g1] at hp2
    simp only [Bool.true_and] at hp2
    rw [hp2];rfl) (fun i hi _ hp=>by
   refine Ev.done fun m=>?_
   show spec_VolOk_b11 (spec_VolOk_L m) _ _ _=_
   unfold spec_VolOk_b11
   have hi1:i+1<v.2.1.length:=by omega
   rw [lt_t hi1,ix_nat hi1,hF,ix_nat hi1]
   simp only [cond_true,obs,Nat.zero_add]
   rw [spec_Named_eq v _ hl hn,inc_i (i+1) (by omega)]
   simp only [obs]
   unfold v2P at hp
   cases g0:gd .bool (belowF v.2.1 1) (i+1)
   ·rfl
   ·rw [g0] at hp
    simp only [Bool.true_and,Bool.not_eq_false'] at hp
    simp only [Bool.and_eq_true] at hp
    rw [hp.1,hp.2];rfl) (fun _=>Ev.done fun m=>by
   rw [show v.2.1.length-1+1=v.2.1.length by omega]
   show spec_VolOk_b11 (spec_VolOk_L m) _ _ _=_
   unfold spec_VolOk_b11
   rw [lt_f (Nat.le_refl _),spec_Bytes_eq v hl hb]
   simp only [cond_false,obs]
   rw [spec_Over_eq v hl hn hb (fun i hi hk=>by have:=(ino_kind (ok_of hall hi)).1 hk;exact⟨this.1,this.2.1⟩)]
   simp only [obs,cond_some,cond_false_r])
  have k3:=k2.step (f:=fun m=>(spec_VolOk_L m).k4 ((v.2.1.length:Nat):Int) v) fun m=>by
   show spec_VolOk_b4 (spec_VolOk_L m) _ _=_
   unfold spec_VolOk_b4
   rw [lt_f (Nat.le_refl _),spec_Below_eq v 1 hl hn];rfl
  rw [show cond (allN (v.2.1.length-1) (v2P v.2.1)) (some (decide ((bytesOf v.2.1:Int)≤400) && !overAny v.2.1,())) (some (false,()))=some (cond (allN (v.2.1.length-1) (v2P v.2.1)) (decide ((bytesOf v.2.1:Int)≤400) && !overAny v.2.1) false,()) from cond_some _ _ _] at k3
  exact k3)
 have:=ev_big key (by omega)
 rw [this,cond_some]
theorem drop1_get{l:List Ino}{i:Nat} : gd tInode (l.drop 1) i=gd tInode l (i+1):=by
 unfold gd
 rw [List.getD_eq_getElem?_getD,List.getD_eq_getElem?_getD,List.getElem?_drop,Nat.add_comm 1 i]
theorem impl_VolOk_eq(v:tVol.D)(hv:VB v):impl_VolOk (v,())=some (volOk v,()):=by
 obtain ⟨hl,hn,hb,he⟩:=hv
 show impl_VolOk_s (impl_VolOk_L BIG) v=_
 unfold impl_VolOk_s
 simp only [within_eq,obs]
 unfold volOk
 cases h1:inR v.1 2 100000
 ·rfl
 cases h2:inR (v.2.1.length:Int) 1 24
 ·rfl
 have hpos:=(inR_iff.1 h2)
 simp only [Bool.not_true,cond_false]
 rw [show(0:Int)=((0:Nat):Int) from rfl,ix_nat (show 0<v.2.1.length by omega)]
 simp only [obs]
 cases h3:(gd tInode v.2.1 0).1==1
 ·rw [bne_t (by simpa using h3)];rfl
 rw [bne_f (by simpa using h3)]
 simp only [cond_false]
 cases h4:(gd tInode v.2.1 0).2.1==2
 ·rw [bne_t (by simpa using h4)];rfl
 rw [bne_f (by simpa using h4)]
 simp only [cond_false,Bool.true_and]
 have key:=allEv v.2.1.length 1 (fun m i=>(impl_VolOk_L m).k4 v.2.1 (v.2.1.length:Int) (i:Int) v) (v1P v) (some (false,())) (some (cond (allN (v.2.1.length-1) (v2P v.2.1)) (decide ((bytesOf v.2.1:Int)≤400) && !overAny v.2.1) false,())) (1 +(v.2.1.length-1)*1+1) (fun i hi _ hp B y hy=>by
  refine hy.step fun m=>?_
  show impl_VolOk_b4 (impl_VolOk_L m) _ _ _ _=_
  unfold impl_VolOk_b4
  rw [lt_t hi,ix_nat hi]
  simp only [cond_true,obs,within_eq]
  have hx:=he _ (gd_mem' hi)
  rw [impl_inoOk_eq v _ hl hx.1 hx.2.2 hx.2.1,inc_i i (by omega)]
  simp only [obs]
  rw [v1_cond hi hl,hp];rfl) (fun i hi _ hp=>by
  refine Ev.done fun m=>?_
  show impl_VolOk_b4 (impl_VolOk_L m) _ _ _ _=_
  unfold impl_VolOk_b4
  rw [lt_t hi,ix_nat hi]
  simp only [cond_true,obs,within_eq]
  have hx:=he _ (gd_mem' hi)
  rw [impl_inoOk_eq v _ hl hx.1 hx.2.2 hx.2.1,inc_i i (by omega)]
  simp only [obs]
  rw [v1_cond hi hl,hp];rfl) (fun hall=>by
  obtain ⟨out,hf,hout⟩:=impl_below_eq v hl hn 1
  have hdl:(v.2.1.drop 1).length=v.2.1.length-1:=by simp
  have hol:=hf.len
  have hmem:∀i,i+1<v.2.1.length→decide ((gd tInode v.2.1 (i+1)).1∈out)=gd .bool (belowF v.2.1 1) (i+1):=by
   intro i hi
   rw [Bool.eq_iff_iff,decide_eq_true_eq,hf.iff]
   exact(belowF_iff v.2.1 (dist_of hall) 1 hi).symm
  have k2:=allEv (v.2.1.length-1) 1 (fun m i=>(impl_VolOk_L m).k11 (v.2.1.drop 1) ((v.2.1.drop 1).length:Int) (i:Int) v out) (v2P v.2.1) (some (false,())) (some (decide ((bytesOf v.2.1:Int)≤400) && !overAny v.2.1,())) 1 (fun i hi _ hp B y hy=>by
   refine hy.step fun m=>?_
   show impl_VolOk_b11 (impl_VolOk_L m) _ _ _ _ _=_
   unfold impl_VolOk_b11
   have hi1:i+1<v.2.1.length:=by omega
   rw [lt_t (by omega),ix_nat (by omega)]
   simp only [cond_true,obs]
   rw [show gd tInode (List.drop 1 v.2.1) i=gd tInode v.2.1 (i+1) from drop1_get]
   rw [contains_eq _ _ (by omega)]
   simp only [obs]
   rw [hmem i hi1,impl_named_eq v _ hl hn,inc_i i (by omega)]
   simp only [obs]
   unfold v2P at hp
   simp only [Bool.and_eq_true,Bool.not_eq_true'] at hp
   rw [hp.1]
   have hp2:=hp.2
   cases g1:(gd tInode v.2.1 (i+1)).2.1==2
   ·rfl
   ·rw [g1] at hp2
    simp only [Bool.true_and] at hp2
    rw [hp2];rfl) (fun i hi _ hp=>by
   refine Ev.done fun m=>?_
   show impl_VolOk_b11 (impl_VolOk_L m) _ _ _ _ _=_
   unfold impl_VolOk_b11
   have hi1:i+1<v.2.1.length:=by omega
   rw [lt_t (by omega),ix_nat (by omega)]
   simp only [cond_true,obs]
   rw [show gd tInode (List.drop 1 v.2.1) i=gd tInode v.2.1 (i+1) from drop1_get]
   rw [contains_eq _ _ (by omega)]
   simp only [obs]
   rw [hmem i hi1,impl_named_eq v _ hl hn,inc_i i (by omega)]
   simp only [obs]
   unfold v2P at hp
   cases g0:gd .bool (belowF v.2.1 1) (i+1)
   ·rfl
   ·rw [g0] at hp
    simp only [Bool.true_and,Bool.not_eq_false'] at hp
    simp only [Bool.and_eq_true] at hp
    rw [hp.1,hp.2];rfl) (fun _=>Ev.done fun m=>by
   show impl_VolOk_b11 (impl_VolOk_L m) _ _ _ _ _=_
   unfold impl_VolOk_b11
   rw [lt_f (by omega),impl_total_eq v hl hb]
   simp only [cond_false,obs]
   rw [impl_over_eq v hl hn hb (dist_of hall) (exs_of hall)]
   simp only [obs,cond_some,cond_false_r])
  have k3:=k2.step (f:=fun m=>(impl_VolOk_L m).k4 v.2.1 (v.2.1.length:Int) ((v.2.1.length:Nat):Int) v) fun m=>by
   show impl_VolOk_b4 (impl_VolOk_L m) _ _ _ _=_
   unfold impl_VolOk_b4
   rw [lt_f (Nat.le_refl _),hout]
   simp only [cond_false,obs]
   unfold rng
   rw [if_pos ⟨by omega,by omega,Int.le_refl _⟩]
   simp only [obs,Int.toNat_natCast]
   have:part v.2.1 (Int.toNat 1) (v.2.1.length-Int.toNat 1)=v.2.1.drop 1:=part_drop v.2.1 1
   rw [this];rfl
  rw [show cond (allN (v.2.1.length-1) (v2P v.2.1)) (some (decide ((bytesOf v.2.1:Int)≤400) && !overAny v.2.1,())) (some (false,()))=some (cond (allN (v.2.1.length-1) (v2P v.2.1)) (decide ((bytesOf v.2.1:Int)≤400) && !overAny v.2.1) false,()) from cond_some _ _ _] at k3
  exact k3)
 have:=ev_big key (by omega)
 rw [this,cond_some]
def grpOk(l:List Int)(i:Nat):Bool:=inR (gd (.int .i64) l i) 0 1000
def credOk(c:tCred.D):Bool:=inR c.1 0 1000&&(inR c.2.1 0 1000&&(decide ((c.2.2.1.length:Int)≤4)&&allN c.2.2.1.length (grpOk c.2.2.1)))
theorem gt_not(a b:Int):decide (a>b) = !decide (a≤b):=by
 by_cases h:a≤b <;> simp [h] <;> omega
theorem spec_CredOk_eq(c:tCred.D):spec_CredOk (c,())=some (credOk c,()):=by
 show spec_CredOk_s (spec_CredOk_L4 BIG) c=_
 unfold spec_CredOk_s credOk
 simp only [l1In_eq,obs]
 cases inR c.1 0 1000
 ·rfl
 cases inR c.2.1 0 1000
 ·rfl
 simp only [Bool.not_true,cond_false,Bool.true_and,gt_not,cond_not']
 by_cases hl:(c.2.2.1.length:Int)≤4
 case neg=>rw [decide_eq_false hl];rfl
 rw [decide_eq_true hl]
 simp only [cond_true,Bool.true_and]
 have:=allL c.2.2.1.length (by omega) (grpOk c.2.2.1) true (fun m i=>spec_CredOk_L4 m i c) (fun m _=>by
  simp only [spec_CredOk_L4,spec_CredOk_b4]
  rw [lt_f (Nat.le_refl _)];rfl) (fun m i hi _ hw=>by
  simp only [spec_CredOk_L4,spec_CredOk_b4,hw]
  rw [lt_t hi,ix_nat hi]
  simp only [cond_true,obs,l1In_eq,cond_not',grpOk])
 rw [Bool.and_true] at this
 exact this
theorem impl_CredOk_eq(c:tCred.D):impl_CredOk (c,())=some (credOk c,()):=by
 show impl_CredOk_s c=_
 unfold impl_CredOk_s credOk
 simp only [within_eq,obs]
 cases inR c.1 0 1000
 ·rfl
 cases inR c.2.1 0 1000
 ·rfl
 simp only [Bool.not_true,cond_false,Bool.true_and,gt_not,cond_not']
 by_cases hl:(c.2.2.1.length:Int)≤4
 case neg=>rw [decide_eq_false hl];rfl
 rw [decide_eq_true hl]
 simp only [cond_true,Bool.true_and]
 have h:slices_ContainsFunc_int_int_impl_CredOk_1 (c.2.2.1,())=some ((fnd c.2.2.1.length fun i => !grpOk c.2.2.1 i).isSome,()):=by
  show slices_ContainsFunc_int_int_impl_CredOk_1_s c.2.2.1=_
  unfold slices_ContainsFunc_int_int_impl_CredOk_1_s
  have h:slices_IndexFunc_int_int_impl_CredOk_1 (c.2.2.1,())=some (optI (fnd c.2.2.1.length fun i => !grpOk c.2.2.1 i),()):=by
   show slices_IndexFunc_int_int_impl_CredOk_1_s (slices_IndexFunc_int_int_impl_CredOk_1_L2 BIG) c.2.2.1=_
   unfold slices_IndexFunc_int_int_impl_CredOk_1_s
   refine fndL c.2.2.1.length (by omega) _ (fun o=>some (optI o,())) (fun m i=>slices_IndexFunc_int_int_impl_CredOk_1_L2 m c.2.2.1 (c.2.2.1.length:Int) i) ?_ ?_
   ·intro m
    simp only [slices_IndexFunc_int_int_impl_CredOk_1_L2,slices_IndexFunc_int_int_impl_CredOk_1_b2]
    rw [lt_f (Nat.le_refl _)];rfl
   ·intro m i hi hw
    simp only [slices_IndexFunc_int_int_impl_CredOk_1_L2,slices_IndexFunc_int_int_impl_CredOk_1_b2,hw]
    rw [lt_t hi,ix_nat hi]
    simp only [cond_true,obs]
    show Option.bind (impl_CredOk_1_s (gd (Ty.int .i64) c.2.2.1 i)) _=_
    unfold impl_CredOk_1_s
    rw [within_eq];rfl
  rw [h]
  simp only [obs,optI_ge]
 rw [h]
 simp only [obs]
 congr 2
 rw [Bool.eq_iff_iff,allN_iff]
 cases hf:fnd c.2.2.1.length fun i => !grpOk c.2.2.1 i with
 | none =>
  simp only [Option.isSome_none,Bool.not_false,true_iff]
  exact fun i hi=>by have:=fnd_none.1 hf i hi;simpa using this
 | some i =>
  simp only [Option.isSome_some,Bool.not_true,Bool.false_eq_true,false_iff]
  obtain ⟨h1,h2,_⟩:=fnd_some.1 hf
  exact fun h=>by rw [h i h1] at h2;cases h2
theorem cred_len{c:tCred.D}(h:credOk c=true):c.2.2.1.length≤4:=by
 simp only [credOk,Bool.and_eq_true,decide_eq_true_eq] at h;omega
def inG(c:tCred.D)(g:Int):Bool:=c.2.1==g||decide (g∈c.2.2.1)
theorem mem_drop1{l:List Int}{i:Nat}(g:Int)(hi:i<l.length):decide (g∈l.drop i)=(gd (.int .i64) l i==g||decide (g∈l.drop (i+1))):=by
 have h:=drop_cons (t:=.int .i64) hi
 have h:l.drop i=gd (.int .i64) l i :: l.drop (i+1):=h
 rw [h,Bool.eq_iff_iff]
 simp only [List.mem_cons,decide_eq_true_eq,Bool.or_eq_true,beq_iff_eq]
 constructor
 ·rintro (h | h)
  ·exact .inl h.symm
  ·exact .inr h
 ·rintro (h | h)
  ·exact .inl h.symm
  ·exact .inr h
theorem spec_In_eq(c:tCred.D)(g:Int)(hc:credOk c=true):spec_In (c,g,())=some (inG c g,()):=by
 show spec_In_s (spec_In_L5 BIG) c g=_
 unfold spec_In_s inG
 rw [spec_CredOk_eq,hc]
 simp only [obs,Bool.not_true,cond_false]
 have hl:=cred_len hc
 have key:∀(r i m:Nat) (b:Bool),i+r=c.2.2.1.length→r<m→spec_In_L5 m g b (i:Int) c=some (b||decide (g∈c.2.2.1.drop i),()):=by
  intro r
  induction r with
  | zero =>
   intro i m b hi hm
   obtain ⟨m,rfl,_⟩:=fuel hm
   simp only [spec_In_L5,spec_In_b5]
   rw [lt_f (by omega),List.drop_of_length_le (by omega)]
   simp
  | succ r ih =>
   intro i m b hi hm
   obtain ⟨m,rfl,hq⟩:=fuel hm
   have hlt:i<c.2.2.1.length:=by omega
   simp only [spec_In_L5,spec_In_b5]
   rw [lt_t hlt,inc_i i (by omega),mem_drop1 g hlt]
   simp only [cond_true]
   cases b
   ·simp only [cond_false]
    rw [ix_nat hlt]
    simp only [obs]
    rw [ih (i+1) m _ (by omega) (by omega)]
    simp
   ·simp only [cond_true]
    rw [ih (i+1) m _ (by omega) (by omega)]
    simp
 have:=key c.2.2.1.length 0 BIG (c.2.1==g) (by omega) (big_gt (by omega))
 simpa using this
theorem impl_In_eq(c:tCred.D)(g:Int)(hc:credOk c=true):impl_In (c,g,())=some (inG c g,()):=by
 show impl_In_s c g=_
 unfold impl_In_s inG
 have hl:=cred_len hc
 rw [impl_CredOk_eq,hc]
 simp only [obs,cond_true]
 rw [contains_eq _ _ (by omega)]
 simp only [obs]
 rw [show(g==c.2.1)=(c.2.1==g) by rw [Bool.eq_iff_iff,beq_iff_eq,beq_iff_eq];exact⟨Eq.symm,Eq.symm⟩]
 cases c.2.1==g <;> rfl
def kindOf(x:Ino):Int:=x.2.1
def modeOf(x:Ino):Int:=x.2.2.1
def uidOf(x:Ino):Int:=x.2.2.2.1
def gidOf(x:Ino):Int:=x.2.2.2.2.1
def band(a b:Int):Int:=bitsI .and .i64 a b
def three(c:tCred.D)(n:Ino):Int :=
 cond (c.1==uidOf n) (Int.fdiv (modeOf n) (2 ^ min (Int.toNat 6) 64)) (cond (inG c (gidOf n)) (Int.fdiv (modeOf n) (2 ^ min (Int.toNat 3) 64)) (modeOf n))
def may(c:tCred.D)(n:Ino)(w:Int):Bool :=
 inR w 0 7&&cond (c.1==0) (band w 1==0||(kindOf n != 1||band (modeOf n) 73 != 0)) (band (band (three c n) 7) w==w)
theorem spec_May_eq(c:tCred.D)(n:Ino)(w:Int)(hc:credOk c=true):spec_May (c,n,w,())=some (may c n w,()):=by
 show spec_May_s c n w=_
 unfold spec_May_s may three
 rw [spec_CredOk_eq,hc,l1In_eq]
 simp only [obs,Bool.not_true,cond_false]
 cases inR w 0 7
 ·rfl
 simp only [Bool.not_true,cond_false,Bool.true_and]
 cases c.1==0
 ·simp only [cond_false]
  rw [spec_In_eq c _ hc]
  simp only [obs]
  show cond (inG c (gidOf n)) (cond (c.1==uidOf n) _ _) (cond (c.1==uidOf n) _ _)=_
  cases inG c (gidOf n) <;> cases c.1==uidOf n <;> rfl
 ·simp only [cond_true]
  show cond (band w 1==0) _ (cond (kindOf n != 1) _ (some (band (modeOf n) 73 != 0,())))=_
  cases band w 1==0 <;> cases kindOf n != 1 <;> rfl
theorem impl_May_eq(c:tCred.D)(n:Ino)(w:Int)(hc:credOk c=true):impl_May (c,n,w,())=some (may c n w,()):=by
 show impl_May_s c n w=_
 unfold impl_May_s may three
 rw [impl_CredOk_eq,hc,within_eq]
 simp only [obs,Bool.not_true,cond_false]
 cases inR w 0 7
 ·rfl
 simp only [Bool.not_true,cond_false,Bool.true_and]
 cases c.1==0
 ·simp only [cond_false]
  rw [impl_In_eq c _ hc]
  simp only [obs]
  show cond (c.1==uidOf n) _ (cond (inG c (gidOf n)) _ _)=_
  cases inG c (gidOf n) <;> cases c.1==uidOf n <;> rfl
 ·simp only [cond_true]
  show cond (kindOf n != 1) _ (cond (band (modeOf n) 73 != 0) _ (some (band w 1==0,())))=_
  cases band w 1==0 <;> cases kindOf n != 1 <;> cases band (modeOf n) 73 != 0 <;> rfl
def mayTake(c:tCred.D)(d n:Ino):Bool:=band (modeOf d) 512==0||(c.1==0||(c.1==uidOf d||c.1==uidOf n))
theorem spec_MayTake_eq(c:tCred.D)(d n:Ino)(hc:credOk c=true):spec_MayTake (c,d,n,())=some (mayTake c d n,()):=by
 show spec_MayTake_s c d n=_
 unfold spec_MayTake_s mayTake
 rw [spec_CredOk_eq,hc]
 simp only [obs,Bool.not_true,cond_false]
 show cond (band (modeOf d) 512==0) _ (cond (c.1==0) _ (cond (c.1==uidOf d) _ (some (c.1==uidOf n,()))))=_
 cases band (modeOf d) 512==0 <;> cases c.1==0 <;> cases c.1==uidOf d <;> rfl
theorem impl_MayTake_eq(c:tCred.D)(d n:Ino)(hc:credOk c=true):impl_MayTake (c,d,n,())=some (mayTake c d n,()):=by
 show impl_MayTake_s c d n=_
 unfold impl_MayTake_s mayTake
 rw [impl_CredOk_eq,hc]
 simp only [obs,cond_true]
 show cond (band (modeOf d) 512==0) _ (cond (c.1==0) _ (cond (c.1==uidOf d) _ (some (c.1==uidOf n,()))))=_
 cases band (modeOf d) 512==0 <;> cases c.1==0 <;> cases c.1==uidOf d <;> rfl
def pathOk(s:List UInt8):Bool:=targetOk s&&nb s 0==47
theorem nb_get(s:List UInt8)(i:Nat):((s.getD i 0).toNat:Int)=nb s i:=rfl
theorem spec_PathOk_eq(s:List UInt8):spec_PathOk (s,())=some (pathOk s,()):=by
 show spec_PathOk_s (spec_PathOk_L4 BIG) s=_
 unfold spec_PathOk_s pathOk targetOk
 simp only [l1In_eq,obs]
 by_cases hl:inR (s.length:Int) 1 60=true
 case neg=>rw [Bool.not_eq_true] at hl;rw [hl];simp
 have hb:=inR_iff.1 hl
 rw [hl]
 simp only [Bool.not_true,cond_false,Bool.and_true]
 rw [show ix s.length 0=some 0 from ix_nat (i:=0) (by omega)]
 simp only [obs,nb_get,bne,cond_not']
 cases nb s 0==47
 ·simp
 simp only [cond_true,Bool.and_true]
 have:=allL s.length (by omega) (fun i=>nb s i==47||byteOk (nb s i)) true (fun m i=>spec_PathOk_L4 m s i) (fun m _=>by
  simp only [spec_PathOk_L4,spec_PathOk_b4]
  rw [lt_f (Nat.le_refl _)];rfl) (fun m i hi _ hw=>by
  simp only [spec_PathOk_L4,spec_PathOk_b4,hw]
  rw [lt_t hi,ix_nat hi]
  simp only [cond_true,obs,spec_Byte_eq,cond_not',cond_or',bne];rfl)
 rw [Bool.and_true] at this
 exact this
theorem impl_PathOk_eq(s:List UInt8)(hl:s.length≤4000000000000000000):impl_PathOk (s,())=some (pathOk s,()):=by
 show impl_PathOk_s s=_
 unfold impl_PathOk_s pathOk
 rw [impl_Target_eq s hl]
 simp only [obs]
 by_cases ht:targetOk s=true
 case neg=>rw [Bool.not_eq_true] at ht;rw [ht];rfl
 rw [ht]
 have:1≤s.length:=by
  unfold targetOk at ht
  rw [Bool.and_eq_true] at ht
  have:=inR_iff.1 ht.2
  omega
 simp only [cond_true]
 rw [show ix s.length 0=some 0 from ix_nat (i:=0) (by omega)]
 rfl
theorem spec_Copy_eq(v:tVol.D)(hl:v.2.1.length≤1048576)(hn:∀i,i<v.2.1.length→(nmsOf (gd tInode v.2.1 i)).length≤1048576):spec_l4Copy (v,())=some (v,()):=by
 show spec_l4Copy_s (spec_l4Copy_L3 BIG) v=_
 unfold spec_l4Copy_s
 have:=lpI v.2.1.length (by omega) (fun m i=>spec_l4Copy_L3 m i v (0,([]:List tInode.D),()) (v.1,v.2.1.take i.toNat,())) (fun _=>some (v,())) (fun _=>True) (fun m _=>by
  simp only [spec_l4Copy_L3,spec_l4Copy_b3]
  rw [lt_f (Nat.le_refl _)]
  simp only [Int.toNat_natCast,List.take_length,cond_false]) (fun m i hi _ hw ih=>by
  simp only [spec_l4Copy_L3,spec_l4Copy_b3]
  rw [lt_t hi,ix_nat hi]
  simp only [cond_true,obs,Int.toNat_natCast]
  have hni:=hn i hi
  show cond (room (0 +(nmsOf (gd tInode v.2.1 i)).length)) _ _=_
  rw [room_t (by omega)]
  simp only [cond_true]
  unfold spec_l4Copy_b3_v2
  show cond (room ((v.2.1.take i).length+1)) _ _=_
  rw [room_t (by rw [List.length_take];omega)]
  simp only [cond_true]
  unfold spec_l4Copy_b3_v3
  rw [hw]
  have ih:=ih trivial
  rw [show((i:Int)+1).toNat=i+1 by omega,List.take_succ_eq_append_getElem hi,← gd_eq (t:=tInode) hi] at ih
  exact ih) v.2.1.length 0 BIG (by omega) (big_gt (by omega)) trivial
 simpa using this
theorem impl_Copy_eq(v:tVol.D)(hl:v.2.1.length≤1048576)(hn:∀i,i<v.2.1.length→(nmsOf (gd tInode v.2.1 i)).length≤1048576):impl_copyVol (v,())=some (v,()):=by
 show impl_copyVol_s (impl_copyVol_L3 BIG) v=_
 unfold impl_copyVol_s
 have:=lpI v.2.1.length (by omega) (fun m i=>impl_copyVol_L3 m v.2.1 (v.2.1.length:Int) i (0,([]:List tInode.D),()) (v.1,v.2.1.take i.toNat,())) (fun _=>some (v,())) (fun _=>True) (fun m _=>by
  simp only [impl_copyVol_L3,impl_copyVol_b3]
  rw [lt_f (Nat.le_refl _)]
  simp only [Int.toNat_natCast,List.take_length,cond_false]) (fun m i hi _ hw ih=>by
  simp only [impl_copyVol_L3,impl_copyVol_b3]
  rw [lt_t hi,ix_nat hi]
  simp only [cond_true,obs,Int.toNat_natCast]
  have hni:=hn i hi
  show cond (room (0 +(nmsOf (gd tInode v.2.1 i)).length)) _ _=_
  rw [room_t (by omega)]
  simp only [cond_true]
  unfold impl_copyVol_b3_v2
  show cond (room ((v.2.1.take i).length+1)) _ _=_
  rw [room_t (by rw [List.length_take];omega)]
  simp only [cond_true]
  unfold impl_copyVol_b3_v3
  rw [hw]
  have ih:=ih trivial
  rw [show((i:Int)+1).toNat=i+1 by omega,List.take_succ_eq_append_getElem hi,← gd_eq (t:=tInode) hi] at ih
  exact ih) v.2.1.length 0 BIG (by omega) (big_gt (by omega)) trivial
 simpa using this
theorem stepsEv{β : Type}(W:Nat)(F:Nat→Nat → β)(y : β):∀(k B:Nat),(∀i,i<k→∀B y,Ev (fun m=>F m (i+1)) B y→Ev (fun m=>F m i) (B+W) y)→Ev (fun m=>F m k) B y→Ev (fun m=>F m 0) (B+k*W) y
 | 0,B,_,h=>by simpa using h
 | k+1,B,hf,h=>by
  have:=stepsEv W F y k (B+W) (fun i hi=>hf i (by omega)) (hf k (by omega) B y h)
  rw [Nat.add_one_mul]
  rwa [show B +(k*W+W)=B+W+k*W by omega]
theorem fndEv{β : Type}(n W:Nat)(F:Nat→Nat → β)(P:Nat→Bool)(R:Option Nat → β)(B:Nat)(hn:Ev (fun m=>F m n) B (R none))(hs:∀i,i<n→P i=true→Ev (fun m=>F m i) B (R (some i)))
  (hf:∀i,i<n→P i=false→∀B y,Ev (fun m=>F m (i+1)) B y→Ev (fun m=>F m i) (B+W) y):Ev (fun m=>F m 0) (B+n*W) (R (fnd n P)):=by
 cases h:fnd n P with
 | none=>exact stepsEv W F _ n B (fun i hi=>hf i hi (fnd_none.1 h i hi)) hn
 | some k =>
  obtain ⟨h1,h2,h3⟩:=fnd_some.1 h
  refine(stepsEv W F _ k B (fun i hi=>hf i (by omega) (h3 i hi)) (hs k h1 h2)).mono ?_
  have:k*W≤n*W:=Nat.mul_le_mul_right _ (by omega)
  omega
theorem spec_Node_eq(v:tVol.D)(id:Int)(hl:v.2.1.length≤1048576){i:Nat}(h:iat v.2.1 id=some i):spec_l7Node (v,id,())=some (gd tInode v.2.1 i,()):=by
 show spec_l7Node_s v id=_
 unfold spec_l7Node_s
 rw [spec_At_eq v id hl,h]
 simp only [obs,optI]
 rw [ix_nat (iat_lt h).1];rfl
theorem impl_inode_w_eq(v:tVol.D)(id:Int)(hl:v.2.1.length≤1048576):impl_Vol_inode_w (v,id,())=some (optI (iat v.2.1 id),v,()):=by
 show impl_Vol_inode_w_s (impl_Vol_inode_w_L2 BIG) v id=_
 unfold impl_Vol_inode_w_s iat
 refine fndL v.2.1.length (by omega) _ (fun o=>some (optI o,v,())) (fun m i=>impl_Vol_inode_w_L2 m id (v.2.1.length:Int) i v) ?_ ?_
 ·intro m
  simp only [impl_Vol_inode_w_L2,impl_Vol_inode_w_b2]
  rw [lt_f (Nat.le_refl _)];rfl
 ·intro m i hi hw
  simp only [impl_Vol_inode_w_L2,impl_Vol_inode_w_b2,hw]
  rw [lt_t hi,ix_nat hi]
  simp only [cond_true,obs,Nat.zero_add];rfl
theorem impl_inode_some(v:tVol.D)(id:Int)(hl:v.2.1.length≤1048576){i:Nat}(h:iat v.2.1 id=some i):impl_Vol_inode (v,id,())=some ([gd tInode v.2.1 i],()):=by
 rw [impl_inode_eq v id hl,h];rfl
def isDirI(l:List Ino)(id:Int):Bool:=match iat l id with | some i=>kindOf (gd tInode l i)==2 | none=>false
theorem spec_Dir_eq(v:tVol.D)(id:Int)(hl:v.2.1.length≤1048576):spec_l4Dir (v,id,())=some (isDirI v.2.1 id,()):=by
 show spec_l4Dir_s v id=_
 unfold spec_l4Dir_s isDirI
 rw [spec_At_eq v id hl]
 simp only [obs,optI_ge]
 cases h:iat v.2.1 id with
 | none=>rfl
 | some i =>
  simp only [Option.isSome_some,cond_true,optI]
  rw [ix_nat (iat_lt h).1];rfl
theorem impl_isDir_eq(v:tVol.D)(id:Int)(hl:v.2.1.length≤1048576):impl_Vol_isDir (v,id,())=some (isDirI v.2.1 id,()):=by
 show impl_Vol_isDir_s v id=_
 unfold impl_Vol_isDir_s isDirI
 rw [impl_inode_eq v id hl]
 cases h:iat v.2.1 id with
 | none=>rfl
 | some i=>rfl
def nameP(N:List tDirent.D)(s:List UInt8)(j:Nat):Bool:=eqS (gd tDirent N j).1 s
def lookR(N:List tDirent.D):Option Nat→Int
 | none=>0
 | some j=>(gd tDirent N j).2.1
def lookN(N:List tDirent.D)(s:List UInt8):Int:=lookR N (fnd N.length (nameP N s))
theorem spec_Look_eq(v:tVol.D)(id:Int)(s:List UInt8)(hl:v.2.1.length≤1048576){i:Nat}(h:iat v.2.1 id=some i)(hn:(nmsOf (gd tInode v.2.1 i)).length≤1048576) :
  spec_l6Look (v,id,s,())=some (lookN (nmsOf (gd tInode v.2.1 i)) s,()):=by
 show spec_l6Look_s (spec_l6Look_L3 BIG) v id s=_
 unfold spec_l6Look_s
 rw [spec_At_eq v id hl,h]
 simp only [obs,optI]
 rw [ix_nat (iat_lt h).1]
 simp only [obs]
 show spec_l6Look_L3 BIG s (nmsOf (gd tInode v.2.1 i)) 0=_
 generalize nmsOf (gd tInode v.2.1 i)=N at hn
 refine fndL N.length (by omega) (nameP N s) (fun o=>some (lookR N o,())) (fun m j=>spec_l6Look_L3 m s N j) ?_ ?_
 ·intro m
  simp only [spec_l6Look_L3,spec_l6Look_b3]
  rw [lt_f (Nat.le_refl _)];rfl
 ·intro m j hj hw
  simp only [spec_l6Look_L3,spec_l6Look_b3,hw]
  rw [lt_t hj,ix_nat hj];rfl
theorem impl_find_eq(n:Ino)(s:List UInt8)(hn:(nmsOf n).length≤1048576):impl_Inode_find (n,s,())=some (lookN (nmsOf n) s,()):=by
 show impl_Inode_find_s (impl_Inode_find_L2 BIG) n s=_
 unfold impl_Inode_find_s
 show impl_Inode_find_L2 BIG s (nmsOf n) ((nmsOf n).length:Int) 0=_
 generalize nmsOf n=N at hn
 refine fndL N.length (by omega) (nameP N s) (fun o=>some (lookR N o,())) (fun m j=>impl_Inode_find_L2 m s N (N.length:Int) j) ?_ ?_
 ·intro m
  simp only [impl_Inode_find_L2,impl_Inode_find_b2]
  rw [lt_f (Nat.le_refl _)];rfl
 ·intro m j hj hw
  simp only [impl_Inode_find_L2,impl_Inode_find_b2,hw]
  rw [lt_t hj,ix_nat hj];rfl
def idP(N:List tDirent.D)(id:Int)(j:Nat):Bool:=(gd tDirent N j).2.1==id
def hasId(N:List tDirent.D)(id:Int):Bool:=(fnd N.length (idP N id)).isSome
def parR(l:List Ino):Option Nat→Int
 | none=>1
 | some i=>(gd tInode l i).1
def parI(l:List Ino)(id:Int):Option Nat:=fnd l.length fun i=>hasId (nmsOf (gd tInode l i)) id
def parOf(l:List Ino)(id:Int):Int:=parR l (parI l id)
theorem hasId_f{N:List tDirent.D}{id:Int}(h:hasId N id=false):∀j,j<N.length→idP N id j=false:=by
 unfold hasId at h
 cases hf:fnd N.length (idP N id) with
 | none=>exact fnd_none.1 hf
 | some j=>rw [hf] at h;cases h
theorem hasId_t{N:List tDirent.D}{id:Int}(h:hasId N id=true):∃j,j<N.length∧idP N id j=true∧∀k,k<j→idP N id k=false:=by
 unfold hasId at h
 cases hf:fnd N.length (idP N id) with
 | none=>rw [hf] at h;cases h
 | some j=>exact⟨j,fnd_some.1 hf⟩
theorem spec_Parent_eq(v:tVol.D)(id:Int)(hl:v.2.1.length≤1048576)(hn:nmsN v.2.1≤1048576):spec_l4Parent (v,id,())=some (parOf v.2.1 id,()):=by
 show spec_l4Parent_s (spec_l4Parent_L BIG) v id=_
 unfold spec_l4Parent_s
 have inner:∀i,i<v.2.1.length→∀j,j<(nmsOf (gd tInode v.2.1 i)).length→idP (nmsOf (gd tInode v.2.1 i)) id j=false→∀B y,Ev (fun m=>(spec_l4Parent_L m).k5 id (i:Int) ((j+1:Nat):Int) v) B y→Ev (fun m=>(spec_l4Parent_L m).k5 id (i:Int) (j:Int) v) (B+1) y:=by
  intro i hi j hj hp B y he
  have hnl:=nms_get hi
  refine he.step fun m=>?_
  show spec_l4Parent_b5 (spec_l4Parent_L m) _ _ _ _=_
  unfold spec_l4Parent_b5
  rw [ix_nat hi]
  simp only [obs]
  show cond (decide ((j:Int)<((nmsOf (gd tInode v.2.1 i)).length:Int))) ((ix (nmsOf (gd tInode v.2.1 i)).length (j:Int)).bind fun v3=>cond (idP (nmsOf (gd tInode v.2.1 i)) id v3) _ _) _=_
  rw [lt_t hj,ix_nat hj]
  simp only [cond_true,obs,hp,cond_false]
  rw [inc_i j (by omega)]
 have key:=fndEv v.2.1.length (1048576+2) (fun m i=>(spec_l4Parent_L m).k2 id (i:Int) v) (fun i=>hasId (nmsOf (gd tInode v.2.1 i)) id) (fun o=>some (parR v.2.1 o,())) (1048576+3) ((Ev.done fun m=>by
   show spec_l4Parent_b2 (spec_l4Parent_L m) _ _ _=_
   unfold spec_l4Parent_b2
   rw [lt_f (Nat.le_refl _)];rfl).mono (by omega)) (fun i hi hp=>by
   have hnl:=nms_get hi
   obtain ⟨j,h1,h2,h3⟩:=hasId_t hp
   have:=stepsEv 1 (fun m j=>(spec_l4Parent_L m).k5 id (i:Int) (j:Int) v) (some ((gd tInode v.2.1 i).1,())) j 1 (fun k hk=>inner i hi k (by omega) (h3 k hk)) (Ev.done fun m=>by
    show spec_l4Parent_b5 (spec_l4Parent_L m) _ _ _ _=_
    unfold spec_l4Parent_b5
    rw [ix_nat hi]
    simp only [obs]
    show cond (decide ((j:Int)<((nmsOf (gd tInode v.2.1 i)).length:Int))) ((ix (nmsOf (gd tInode v.2.1 i)).length (j:Int)).bind fun v3=>cond (idP (nmsOf (gd tInode v.2.1 i)) id v3) _ _) _=_
    rw [lt_t h1,ix_nat h1]
    simp only [cond_true,obs,h2])
   refine(this.step (f:=fun m=>(spec_l4Parent_L m).k2 id (i:Int) v) fun m=>?_).mono (by omega)
   show spec_l4Parent_b2 (spec_l4Parent_L m) _ _ _=_
   unfold spec_l4Parent_b2
   rw [lt_t hi];rfl) (fun i hi hp B y he=>by
   have hnl:=nms_get hi
   have h0:=hasId_f hp
   have:=stepsEv 1 (fun m j=>(spec_l4Parent_L m).k5 id (i:Int) (j:Int) v) y (nmsOf (gd tInode v.2.1 i)).length (B+1) (fun k hk=>inner i hi k hk (h0 k hk)) (he.step fun m=>by
    show spec_l4Parent_b5 (spec_l4Parent_L m) _ _ _ _=_
    unfold spec_l4Parent_b5
    rw [ix_nat hi]
    simp only [obs]
    show cond (decide (((nmsOf (gd tInode v.2.1 i)).length:Int)<((nmsOf (gd tInode v.2.1 i)).length:Int))) _ _=_
    rw [lt_f (Nat.le_refl _)]
    simp only [cond_false]
    rw [inc_i i (by omega)])
   refine(this.step (f:=fun m=>(spec_l4Parent_L m).k2 id (i:Int) v) fun m=>?_).mono (by omega)
   show spec_l4Parent_b2 (spec_l4Parent_L m) _ _ _=_
   unfold spec_l4Parent_b2
   rw [lt_t hi];rfl)
 have hm:v.2.1.length*(1048576+2)≤1048576*(1048576+2):=Nat.mul_le_mul_right _ hl
 exact ev_big key (by omega)
theorem impl_parent_eq(v:tVol.D)(id:Int)(hl:v.2.1.length≤1048576)(hn:nmsN v.2.1≤1048576):impl_Vol_parent (v,id,())=some (parOf v.2.1 id,()):=by
 show impl_Vol_parent_s (impl_Vol_parent_L BIG) v id=_
 unfold impl_Vol_parent_s
 have inner:∀i,i<v.2.1.length→∀j,j<(nmsOf (gd tInode v.2.1 i)).length→idP (nmsOf (gd tInode v.2.1 i)) id j=false→∀B y,
   Ev (fun m=>(impl_Vol_parent_L m).k5 id v.2.1 (v.2.1.length:Int) (i:Int) (nmsOf (gd tInode v.2.1 i)) ((nmsOf (gd tInode v.2.1 i)).length:Int) ((j+1:Nat):Int) (gd tInode v.2.1 i)) B y →
   Ev (fun m=>(impl_Vol_parent_L m).k5 id v.2.1 (v.2.1.length:Int) (i:Int) (nmsOf (gd tInode v.2.1 i)) ((nmsOf (gd tInode v.2.1 i)).length:Int) (j:Int) (gd tInode v.2.1 i)) (B+1) y:=by
  intro i hi j hj hp B y he
  have hnl:=nms_get hi
  refine he.step fun m=>?_
  show impl_Vol_parent_b5 (impl_Vol_parent_L m) _ _ _ _ _ _ _ _=_
  unfold impl_Vol_parent_b5
  rw [lt_t hj,ix_nat hj]
  simp only [cond_true,obs]
  show cond (idP (nmsOf (gd tInode v.2.1 i)) id j) _ _=_
  rw [hp,inc_i j (by omega)];rfl
 have key:=fndEv v.2.1.length (1048576+2) (fun m i=>(impl_Vol_parent_L m).k2 id v.2.1 (v.2.1.length:Int) (i:Int)) (fun i=>hasId (nmsOf (gd tInode v.2.1 i)) id) (fun o=>some (parR v.2.1 o,())) (1048576+3) ((Ev.done fun m=>by
   show impl_Vol_parent_b2 (impl_Vol_parent_L m) _ _ _ _=_
   unfold impl_Vol_parent_b2
   rw [lt_f (Nat.le_refl _)];rfl).mono (by omega)) (fun i hi hp=>by
   have hnl:=nms_get hi
   obtain ⟨j,h1,h2,h3⟩:=hasId_t hp
   have:=stepsEv 1 (fun m j=>(impl_Vol_parent_L m).k5 id v.2.1 (v.2.1.length:Int) (i:Int) (nmsOf (gd tInode v.2.1 i)) ((nmsOf (gd tInode v.2.1 i)).length:Int) (j:Int) (gd tInode v.2.1 i)) (some ((gd tInode v.2.1 i).1,())) j 1 (fun k hk=>inner i hi k (by omega) (h3 k hk)) (Ev.done fun m=>by
    show impl_Vol_parent_b5 (impl_Vol_parent_L m) _ _ _ _ _ _ _ _=_
    unfold impl_Vol_parent_b5
    rw [lt_t h1,ix_nat h1]
    simp only [cond_true,obs]
    show cond (idP (nmsOf (gd tInode v.2.1 i)) id j) _ _=_
    rw [h2];rfl)
   refine(this.step (f:=fun m=>(impl_Vol_parent_L m).k2 id v.2.1 (v.2.1.length:Int) (i:Int)) fun m=>?_).mono (by omega)
   show impl_Vol_parent_b2 (impl_Vol_parent_L m) _ _ _ _=_
   unfold impl_Vol_parent_b2
   rw [lt_t hi,ix_nat hi];rfl) (fun i hi hp B y he=>by
   have hnl:=nms_get hi
   have h0:=hasId_f hp
   have:=stepsEv 1 (fun m j=>(impl_Vol_parent_L m).k5 id v.2.1 (v.2.1.length:Int) (i:Int) (nmsOf (gd tInode v.2.1 i)) ((nmsOf (gd tInode v.2.1 i)).length:Int) (j:Int) (gd tInode v.2.1 i)) y (nmsOf (gd tInode v.2.1 i)).length (B+1) (fun k hk=>inner i hi k hk (h0 k hk)) (he.step fun m=>by
    show impl_Vol_parent_b5 (impl_Vol_parent_L m) _ _ _ _ _ _ _ _=_
    unfold impl_Vol_parent_b5
    rw [lt_f (Nat.le_refl _)]
    simp only [cond_false]
    rw [inc_i i (by omega)])
   refine(this.step (f:=fun m=>(impl_Vol_parent_L m).k2 id v.2.1 (v.2.1.length:Int) (i:Int)) fun m=>?_).mono (by omega)
   show impl_Vol_parent_b2 (impl_Vol_parent_L m) _ _ _ _=_
   unfold impl_Vol_parent_b2
   rw [lt_t hi,ix_nat hi];rfl)
 have hm:v.2.1.length*(1048576+2)≤1048576*(1048576+2):=Nat.mul_le_mul_right _ hl
 exact ev_big key (by omega)
def dirsN(l:List Ino)(N:List tDirent.D):Nat:=(N.filter fun d=>isDirI l d.2.1).length
def linksN(l:List Ino)(n:Ino):Int:=cond (kindOf n != 2) (namedN l n.1:Int) (2+dirsN l (nmsOf n):Int)
theorem dirs_take{l:List Ino}{N:List tDirent.D}{j:Nat}(hj:j<N.length):dirsN l (N.take (j+1))=dirsN l (N.take j)+cond (isDirI l (gd tDirent N j).2.1) 1 0:=by
 unfold dirsN
 rw [List.take_succ_eq_append_getElem hj,List.filter_append,List.length_append]
 congr 1
 rw [gd_eq hj]
 cases h:isDirI l (N[j]).2.1 <;> simp [List.filter_cons,h]
theorem dirs_le(l:List Ino)(N:List tDirent.D)(j:Nat):dirsN l (N.take j)≤N.length:=by
 unfold dirsN
 refine Nat.le_trans (List.length_filter_le _ _) ?_
 rw [List.length_take];omega
theorem spec_Links_eq(v:tVol.D)(id:Int)(hl:v.2.1.length≤1048576)(hn:nmsN v.2.1≤1048576){i:Nat}(h:iat v.2.1 id=some i):spec_l4Links (v,id,())=some (linksN v.2.1 (gd tInode v.2.1 i),()):=by
 show spec_l4Links_s (spec_l4Links_L8 BIG) v id=_
 unfold spec_l4Links_s linksN
 obtain ⟨hi,hid⟩:=iat_lt h
 have hnl:=nms_get hi
 rw [spec_At_eq v id hl,h]
 simp only [obs,optI_neg,Option.isNone_some,cond_false,optI]
 rw [ix_nat hi]
 simp only [obs]
 show cond (kindOf (gd tInode v.2.1 i) != 2) _ _=_
 cases kindOf (gd tInode v.2.1 i) != 2
 ·simp only [cond_false]
  have:=lpI (nmsOf (gd tInode v.2.1 i)).length (by omega) (fun m j=>spec_l4Links_L8 m (i:Int) (2+dirsN v.2.1 ((nmsOf (gd tInode v.2.1 i)).take j.toNat):Int) j v) (fun _=>some ((2+dirsN v.2.1 (nmsOf (gd tInode v.2.1 i)):Int),())) (fun _=>True) (fun m _=>by
   simp only [spec_l4Links_L8,spec_l4Links_b8]
   rw [ix_nat hi]
   simp only [obs]
   show cond (decide (((nmsOf (gd tInode v.2.1 i)).length:Int)<((nmsOf (gd tInode v.2.1 i)).length:Int))) _ _=_
   rw [lt_f (Nat.le_refl _)]
   simp only [Int.toNat_natCast,List.take_length,cond_false]) (fun m j hj _ hw ih=>by
   have ih:=ih trivial
   rw [show((j:Int)+1).toNat=j+1 by omega,dirs_take hj] at ih
   have hdl:=dirs_le v.2.1 (nmsOf (gd tInode v.2.1 i)) j
   simp only [spec_l4Links_L8,spec_l4Links_b8]
   rw [ix_nat hi]
   simp only [obs]
   show cond (decide ((j:Int)<((nmsOf (gd tInode v.2.1 i)).length:Int))) ((ix (nmsOf (gd tInode v.2.1 i)).length (j:Int)).bind fun v3=>(spec_l4Dir (v,(gd tDirent (nmsOf (gd tInode v.2.1 i)) v3).2.1,())).bind _) _=_
   rw [lt_t hj,ix_nat hj]
   simp only [cond_true,obs]
   rw [spec_Dir_eq v _ hl]
   simp only [obs,hw,Int.toNat_natCast]
   revert ih
   cases isDirI v.2.1 (gd tDirent (nmsOf (gd tInode v.2.1 i)) j).2.1
   ·intro ih
    exact ih
   ·intro ih
    simp only [cond_true] at ih ⊢
    rw [w64_sm (by omega) (by omega)]
    rw [Int.natCast_add,← Int.add_assoc] at ih
    exact ih) (nmsOf (gd tInode v.2.1 i)).length 0 BIG (by omega) (big_gt (by omega)) trivial
  simpa [dirsN] using this
 ·simp only [cond_true]
  rw [spec_Named_eq v id hl hn,hid];rfl
theorem impl_links_eq(v:tVol.D)(n:Ino)(hl:v.2.1.length≤1048576)(hn:nmsN v.2.1≤1048576)(hnl:(nmsOf n).length≤1048576):impl_Vol_links (v,n,())=some (linksN v.2.1 n,()):=by
 show impl_Vol_links_s (impl_Vol_links_L5 BIG) v n=_
 unfold impl_Vol_links_s linksN
 show cond (kindOf n != 2) _ _=_
 cases kindOf n != 2
 ·simp only [cond_false]
  have:=lpI (nmsOf n).length (by omega) (fun m j=>impl_Vol_links_L5 m v (2+dirsN v.2.1 ((nmsOf n).take j.toNat):Int) (nmsOf n) ((nmsOf n).length:Int) j) (fun _=>some ((2+dirsN v.2.1 (nmsOf n):Int),())) (fun _=>True) (fun m _=>by
   simp only [impl_Vol_links_L5,impl_Vol_links_b5]
   rw [lt_f (Nat.le_refl _)]
   simp only [Int.toNat_natCast,List.take_length,cond_false]) (fun m j hj _ hw ih=>by
   have ih:=ih trivial
   rw [show((j:Int)+1).toNat=j+1 by omega,dirs_take hj] at ih
   have hdl:=dirs_le v.2.1 (nmsOf n) j
   simp only [impl_Vol_links_L5,impl_Vol_links_b5]
   rw [lt_t hj,ix_nat hj]
   simp only [cond_true,obs]
   rw [impl_isDir_eq v _ hl]
   simp only [obs,hw,Int.toNat_natCast]
   revert ih
   cases isDirI v.2.1 (gd tDirent (nmsOf n) j).2.1
   ·intro ih
    exact ih
   ·intro ih
    simp only [cond_true] at ih ⊢
    rw [w64_sm (by omega) (by omega)]
    rw [Int.natCast_add,← Int.add_assoc] at ih
    exact ih) (nmsOf n).length 0 BIG (by omega) (big_gt (by omega)) trivial
  show impl_Vol_links_L5 BIG v 2 (nmsOf n) ((nmsOf n).length:Int) 0=_
  simpa [dirsN] using this
 ·simp only [cond_true]
  rw [impl_named_eq v _ hl hn];rfl
abbrev Txt:Type:=List UInt8
def hdAdd(c:Txt):List Txt→List Txt
 | []=>[c]
 | p :: ps=>(c++p) :: ps
def spl:Txt→List Txt
 | []=>[[]]
 | b :: l=>cond (b==47) ([] :: spl l) (hdAdd [b] (spl l))
def full(p:Txt):Bool := !eqS p []
def cut(s:Txt):List Txt:=(spl s).filter full
theorem hdAdd_ne(c:Txt)(l:List Txt):hdAdd c l≠[]:=by cases l <;> simp [hdAdd]
theorem spl_ne(s:Txt):spl s≠[]:=by
 cases s with
 | nil=>simp [spl]
 | cons b l=>simp only [spl];cases b==47 <;> simp [hdAdd_ne]
theorem hdAdd_nil{l:List Txt}(h:l≠[]):hdAdd [] l=l:=by cases l <;> simp_all [hdAdd]
theorem hdAdd_add(a b:Txt){l:List Txt} : hdAdd a (hdAdd b l)=hdAdd (a++b) l:=by cases l <;> simp [hdAdd]
theorem full_f{p:Txt} : full p=false↔p=[]:=by unfold full eqS;simp
theorem cut_add(c:Txt):(hdAdd c [[]]).filter full=cond (full c) [c] []:=by
 simp only [hdAdd,List.append_nil,List.filter_cons,List.filter_nil]
 cases full c <;> rfl
theorem drop_get(s:Txt){i:Nat}(h:i<s.length):s.drop i=s.getD i 0 :: s.drop (i+1):=by
 rw [List.drop_eq_getElem_cons h]
 congr 1
 rw [List.getD_eq_getElem?_getD,List.getElem?_eq_getElem h];rfl
theorem part_snoc{s:Txt}{a i:Nat}(ha:a≤i)(hi:i<s.length):part s a (i+1-a)=part s a (i-a)++[s.getD i 0]:=by
 unfold part
 rw [show i+1-a=(i-a)+1 by omega,List.take_add_one]
 congr 1
 rw [List.getElem?_drop,show a +(i-a)=i by omega,List.getElem?_eq_getElem hi,List.getD_eq_getElem?_getD,List.getElem?_eq_getElem hi];rfl
theorem byte47(b:UInt8):(((b.toNat:Nat):Int)==47)=(b==47):=by
 rw [Bool.eq_iff_iff,beq_iff_eq,beq_iff_eq]
 constructor
 ·intro h
  have:b.toNat=47:=by omega
  exact UInt8.toNat_inj.1 (by rw [this];rfl)
 ·rintro rfl;rfl
theorem part_len{s:Txt}{a n:Nat}(h:a+n≤s.length):(part s a n).length=n:=by unfold part;rw [List.length_take,List.length_drop];omega
theorem full_part{s:Txt}{a i:Nat}(ha:a≤i)(hi:i≤s.length):full (part s a (i-a))=decide ((i:Int) >(a:Int)):=by
 by_cases h:a<i
 ·rw [decide_eq_true (show(i:Int) >(a:Int) by omega)]
  rw [← Bool.not_eq_false,full_f]
  intro h0
  have:=part_len (s:=s) (a:=a) (n:=i-a) (by omega)
  rw [h0] at this
  simp at this;omega
 ·have:i-a=0:=by omega
  rw [this,decide_eq_false (show ¬(i:Int) >(a:Int) by omega)]
  exact full_f.2 (by simp [part])
theorem spec_Cut_eq(s:Txt)(hl:s.length≤1048576):spec_l6Cut (s,())=some (cut s,()):=by
 show spec_l6Cut_s (spec_l6Cut_L4 BIG) s=_
 unfold spec_l6Cut_s
 have key:∀(r i m a:Nat) (out:List Txt),i+r=s.length→r+1<m→a≤i→out.length≤i→spec_l6Cut_L4 m s (a:Int) (i:Int) out=some (out++(hdAdd (part s a (i-a)) (spl (s.drop i))).filter full,()):=by
  intro r
  induction r with
  | zero =>
   intro i m a out hi hm ha ho
   obtain ⟨m,rfl,hm'⟩:=fuel hm
   obtain ⟨m,rfl,_⟩:=fuel hm'
   have hil:i=s.length:=by omega
   have hend:∀(x:Int) (o:List Txt),spec_l6Cut_L4 (m+1) s x (w64 ((i:Int)+1)) o=some (o,()):=by
    intro x o
    simp only [spec_l6Cut_L4,spec_l6Cut_b4]
    rw [inc_i i (by omega),decide_eq_false (by omega)];rfl
   rw [spec_l6Cut_L4,spec_l6Cut_b4,decide_eq_true (show(i:Int)≤(s.length:Int) by omega),show((i:Int) ==(s.length:Int))=true by simp;omega]
   simp only [cond_true]
   rw [List.drop_of_length_le (by omega),spl,cut_add,full_part ha (by omega)]
   by_cases h:(i:Int) >(a:Int)
   ·rw [decide_eq_true h]
    simp only [cond_true]
    rw [rng_nat ha (by omega)]
    simp only [obs]
    rw [room_t (by simp only [List.length_cons,List.length_nil];omega)]
    simp only [cond_true,hend]
   ·rw [decide_eq_false h]
    simp only [cond_false,hend,List.append_nil]
  | succ r ih =>
   intro i m a out hi hm ha ho
   obtain ⟨m,rfl,hm⟩:=fuel hm
   have hlt:i<s.length:=by omega
   rw [spec_l6Cut_L4,spec_l6Cut_b4,decide_eq_true (show(i:Int)≤(s.length:Int) by omega),show((i:Int) ==(s.length:Int))=false by simp;omega]
   simp only [cond_true,cond_false]
   rw [ix_nat hlt,drop_get s hlt,spl]
   simp only [obs]
   rw [byte47,inc_i i (by omega)]
   cases s.getD i 0==47
   ·simp only [cond_false]
    rw [ih (i+1) m a out (by omega) (by omega) (by omega) (by omega),hdAdd_add,← part_snoc ha hlt]
   ·simp only [cond_true]
    have hz:part s (i+1) (i+1-(i+1))=[]:=by simp [part]
    have hs:(hdAdd (part s a (i-a)) ([] :: spl (s.drop (i+1)))).filter full=cond (full (part s a (i-a))) [part s a (i-a)] []++(spl (s.drop (i+1))).filter full:=by
     simp only [hdAdd,List.append_nil,List.filter_cons]
     cases full (part s a (i-a)) <;> rfl
    rw [hs,full_part ha (by omega)]
    by_cases h:(i:Int) >(a:Int)
    ·rw [decide_eq_true h]
     simp only [cond_true]
     rw [rng_nat ha (by omega)]
     simp only [obs]
     rw [room_t (by simp only [List.length_cons,List.length_nil];omega)]
     simp only [cond_true]
     rw [ih (i+1) m (i+1) _ (by omega) (by omega) (by omega) (by simp;omega),hz,hdAdd_nil (spl_ne _),List.append_assoc]
    ·rw [decide_eq_false h]
     simp only [cond_false]
     rw [ih (i+1) m (i+1) _ (by omega) (by omega) (by omega) (by omega),hz,hdAdd_nil (spl_ne _),List.nil_append]
 have:=key s.length 0 BIG 0 [] (by omega) (big_gt (by omega)) (by omega) (by simp)
 rw [show part s 0 (0-0)=[] by simp [part],List.drop_zero,hdAdd_nil (spl_ne _)] at this
 simpa [cut] using this
theorem idx_none{s:Txt}(h:Lib.indexByte s 47 = -1):spl s=[s]∧s.count 47=0:=by
 induction s with
 | nil=>exact⟨rfl,rfl⟩
 | cons b l ih =>
  unfold Lib.indexByte at h
  cases hb:b==47
  ·rw [hb] at h
   simp only [Bool.false_eq_true,if_false] at h
   have hl:Lib.indexByte l 47 = -1:=by
    by_cases h1:Lib.indexByte l 47 = -1
    ·exact h1
    ·have h2:=Lib.indexByte_ge l 47
     rw [if_neg (by simpa using h1)] at h
     omega
   obtain ⟨i1,i2⟩:=ih hl
   refine⟨by rw [spl,hb,i1];rfl,?_⟩
   rw [List.count_cons,i2,hb];rfl
  ·rw [hb] at h;simp at h
theorem idx_some{s:Txt}{k:Nat}(h:Lib.indexByte s 47=(k:Int)):k<s.length∧spl s=s.take k :: spl (s.drop (k+1))∧s.count 47=(s.drop (k+1)).count 47+1:=by
 induction s generalizing k with
 | nil=>unfold Lib.indexByte at h;omega
 | cons b l ih =>
  unfold Lib.indexByte at h
  cases hb:b==47
  ·rw [hb] at h
   simp only [Bool.false_eq_true,if_false] at h
   have h2:=Lib.indexByte_ge l 47
   by_cases h1:Lib.indexByte l 47 = -1
   ·rw [if_pos (by simpa using h1)] at h;omega
   ·rw [if_neg (by simpa using h1)] at h
    obtain ⟨j,rfl⟩:∃j,k=j+1:=⟨k-1,by omega⟩
    obtain ⟨i1,i2,i3⟩:=ih (k:=j) (by omega)
    refine⟨by simp;omega,?_,?_⟩
    ·rw [spl,hb,i2];rfl
    ·rw [List.count_cons,i3,hb];rfl
  ·rw [hb] at h
   simp only [if_true] at h
   have:k=0:=by omega
   subst this
   refine⟨by simp,?_,?_⟩
   ·rw [spl,hb];rfl
   ·rw [List.count_cons,hb];rfl
theorem idx_cases(s:Txt):Lib.indexByte s 47 = -1∨∃k:Nat,Lib.indexByte s 47=k:=by
 have:=Lib.indexByte_ge s 47
 by_cases h:Lib.indexByte s 47 = -1
 ·exact .inl h
 ·exact .inr ⟨(Lib.indexByte s 47).toNat,by omega⟩
theorem Index_eq(s:Txt):strings_Index (s,[47],())=some (Lib.indexByte s 47,()):=by
 show strings_Index_s s [47]=_
 unfold strings_Index_s
 show Option.bind (stringslite_Index_s s [47]) _=_
 unfold stringslite_Index_s
 by_cases h:eqS [47] s=true
 ·rw [h]
  have:s=[47]:=by unfold eqS at h;simp only [decide_eq_true_eq] at h;exact h.symm
  subst this;rfl
 ·rw [Bool.not_eq_true] at h
  rw [h]
  rfl
theorem Count_eq(s:Txt):strings_Count (s,[47],())=some ((s.count 47:Int),()):=by
 show strings_Count_s (strings_Count_L6 BIG) s [47]=_
 unfold strings_Count_s
 rfl
theorem genSplit_loop:∀(r:Nat) (s:Txt) (i n m:Nat) (a:List Txt),s.length≤1048576→n≤1048576→s.count 47=r→i+r=n→a.length=n+1→r+1<m →
  (strings_genSplit_L m).k11 s [47] 0 (n:Int) (i:Int) a=some (a.take i++spl s,()):=by
 intro r
 induction r with
 | zero =>
  intro s i n m a hs hn hc hi ha hm
  obtain ⟨m,rfl,hm'⟩:=fuel hm
  obtain ⟨m,rfl,_⟩:=fuel hm'
  have:i=n:=by omega
  subst this
  show strings_genSplit_b11 (strings_genSplit_L (m+1)) _ _ _ _ _ _=_
  unfold strings_genSplit_b11
  rw [lt_f (Nat.le_refl _)]
  simp only [cond_false]
  show strings_genSplit_b17 (strings_genSplit_L m) _ _ _=_
  unfold strings_genSplit_b17
  rw [ix_nat (by omega)]
  simp only [obs,Nat.zero_add]
  rw [inc_i i (by omega)]
  show Option.bind (rng (a.set i s).length ((0:Nat):Int) ((i+1:Nat):Int)) _=_
  rw [rng_nat (by omega) (by rw [List.length_set];omega)]
  simp only [obs,Nat.zero_add,Nat.sub_zero]
  have hsp:spl s=[s]:=by
   rcases idx_cases s with h | ⟨k,h⟩
   ·exact(idx_none h).1
   ·have:=(idx_some h).2.2;omega
  rw [hsp,part_take,List.take_succ_eq_append_getElem (by rw [List.length_set];omega),List.getElem_set_self,List.take_set_of_le (by omega)]
 | succ r ih =>
  intro s i n m a hs hn hc hi ha hm
  obtain ⟨m,rfl,hm⟩:=fuel hm
  show strings_genSplit_b11 (strings_genSplit_L m) _ _ _ _ _ _=_
  unfold strings_genSplit_b11
  rw [lt_t (by omega),Index_eq]
  simp only [cond_true,obs]
  obtain ⟨k,hk⟩:∃k:Nat,Lib.indexByte s 47=k:=by
   rcases idx_cases s with h | h
   ·have:=(idx_none h).2;omega
   ·exact h
  obtain ⟨h1,h2,h3⟩:=idx_some hk
  rw [hk,decide_eq_false (by omega)]
  simp only [cond_false]
  rw [show w64 ((k:Int)+0)=(k:Int) by rw [Int.add_zero];exact w64_sm (by omega) (by omega)]
  show Option.bind (rng s.length ((0:Nat):Int) (k:Int)) _=_
  rw [rng_nat (by omega) (by omega)]
  simp only [obs]
  rw [ix_nat (by omega)]
  simp only [obs,Nat.zero_add]
  unfold strings_genSplit_b11_v4
  simp only
  rw [show w64 ((k:Int) +(([47]:Txt).length:Int))=((k+1:Nat):Int) from inc_i k (by omega),rng_nat (by omega) (Nat.le_refl _)]
  simp only [obs]
  rw [part_drop,inc_i i (by omega),ih (s.drop (k+1)) (i+1) n m _ (by rw [List.length_drop];omega) hn (by omega) (by omega) (by rw [List.length_set];exact ha) (by omega)]
  rw [h2,List.take_succ_eq_append_getElem (by rw [List.length_set];omega),List.getElem_set_self,List.take_set_of_le (by omega),Nat.sub_zero,part_take,List.append_assoc];rfl
theorem Split_eq(s:Txt)(hl:s.length≤1048576):strings_Split (s,[47],())=some (spl s,()):=by
 show strings_Split_s s [47]=_
 unfold strings_Split_s
 have:strings_genSplit (s,[47],0,-1,())=some (spl s,()):=by
  show strings_genSplit_s (strings_genSplit_L BIG) s [47] 0 (-1)=_
  unfold strings_genSplit_s
  have hcl:s.count 47≤s.length:=List.count_le_length
  rw [Count_eq]
  show(strings_genSplit_L BIG).k7 s [47] 0 (w64 ((s.count 47:Int)+1))=_
  obtain ⟨q,hq,hq2⟩:=big_pred 1
  rw [hq]
  show strings_genSplit_b7 (strings_genSplit_L q) _ _ _ _=_
  unfold strings_genSplit_b7
  rw [inc_i _ (by omega),inc_i _ (by omega),show mnI ((s.count 47+1:Nat):Int) ((s.length+1:Nat):Int)=((s.count 47+1:Nat):Int) by rw [mn_eq];omega]
  rw [decide_eq_true (by omega),decide_eq_true rfl,Int.toNat_natCast,room_t (by omega)]
  simp only [Bool.and_self,cond_true]
  rw [show w64 (((s.count 47+1:Nat):Int)-1)=((s.count 47:Nat):Int) by rw [w64_sm (by omega) (by omega)];omega]
  have:=genSplit_loop (s.count 47) s 0 (s.count 47) q (List.replicate (s.count 47+1) []) hl (by omega) rfl (by omega) (by simp) (by omega)
  simpa using this
 rw [this];rfl
theorem pieces_eq(s:Txt)(hl:s.length≤1048576):impl_pieces (s,())=some (cut s,()):=by
 show impl_pieces_s (impl_pieces_L3 BIG) s=_
 unfold impl_pieces_s
 rw [Split_eq s hl]
 simp only [obs]
 have hsl:(spl s).length≤1048577:=by
  have:∀s:Txt,(spl s).length≤s.length+1:=by
   intro s
   induction s with
   | nil=>simp [spl]
   | cons b l ih =>
    rw [spl]
    cases b==47
    ·simp only [cond_false,List.length_cons]
     cases hs:spl l with
     | nil=>simp [hdAdd]
     | cons p ps=>rw [hs] at ih;simp only [hdAdd,List.length_cons] at ih ⊢;omega
    ·simp only [cond_true,List.length_cons];omega
  have:=this s;omega
 show impl_pieces_L3 BIG _ _ _ _=some ((spl s).filter full,())
 generalize spl s=l at hsl
 have:=lpI l.length (by omega) (fun m i=>impl_pieces_L3 m (l.length:Int) i ((l.take i.toNat).filter full) l) (fun _=>some (l.filter full,())) (fun _=>True) (fun m _=>by
  simp only [impl_pieces_L3,impl_pieces_b3]
  rw [lt_f (Nat.le_refl _)]
  simp only [Int.toNat_natCast,List.take_length,cond_false]) (fun m i hi _ hw ih=>by
  have ih:=ih trivial
  have hg:gd Ty.str l i=l[i]:=gd_eq (t:=.str) hi
  rw [show((i:Int)+1).toNat=i+1 by omega,List.take_succ_eq_append_getElem hi,List.filter_append,List.filter_cons,List.filter_nil] at ih
  simp only [impl_pieces_L3,impl_pieces_b3]
  rw [lt_t hi,ix_nat hi]
  simp only [cond_true,obs,Nat.zero_add,hw,Int.toNat_natCast]
  rw [hg]
  show cond (full l[i]) _ _=_
  have hfl:((l.take i).filter full).length≤i:=Nat.le_trans (List.length_filter_le _ _) (by rw [List.length_take];omega)
  cases hf:full l[i]
  ·rw [hf] at ih
   simp only [Bool.false_eq_true,if_false,List.append_nil] at ih
   exact ih
  ·rw [hf] at ih
   simp only [if_true] at ih
   simp only [cond_true]
   rw [room_t (by simp only [List.length_cons,List.length_nil];omega)]
   exact ih) l.length 0 BIG (by omega) (big_gt (by omega)) trivial
 simpa using this
theorem spl_mem{s:Txt} : ∀ {p:Txt},p∈spl s→∀b,b∈p→b∈s∧(b==47)=false:=by
 induction s with
 | nil=>intro p hp b hb;simp [spl] at hp;subst hp;simp at hb
 | cons c l ih =>
  intro p hp b hb
  rw [spl] at hp
  cases hc:c==47
  ·rw [hc] at hp
   simp only [cond_false] at hp
   cases hs:spl l with
   | nil=>exact absurd hs (spl_ne l)
   | cons q qs =>
    rw [hs] at hp ih
    simp only [hdAdd,List.mem_cons] at hp
    rcases hp with rfl | hp
    ·simp only [List.cons_append,List.nil_append,List.mem_cons] at hb
     rcases hb with rfl | hb
     ·exact⟨List.mem_cons_self,hc⟩
     ·obtain ⟨h1,h2⟩:=ih List.mem_cons_self b hb
      exact⟨List.mem_cons_of_mem _ h1,h2⟩
    ·obtain ⟨h1,h2⟩:=ih (List.mem_cons_of_mem _ hp) b hb
     exact⟨List.mem_cons_of_mem _ h1,h2⟩
  ·rw [hc] at hp
   simp only [cond_true,List.mem_cons] at hp
   rcases hp with rfl | hp
   ·simp at hb
   ·obtain ⟨h1,h2⟩:=ih hp b hb
    exact⟨List.mem_cons_of_mem _ h1,h2⟩
theorem spl_len(s:Txt):(spl s).length≤s.length+1:=by
 induction s with
 | nil=>simp [spl]
 | cons b l ih =>
  rw [spl]
  cases b==47
  ·simp only [cond_false,List.length_cons]
   cases hs:spl l with
   | nil=>simp [hdAdd]
   | cons p ps=>rw [hs] at ih;simp only [hdAdd,List.length_cons] at ih ⊢;omega
  ·simp only [cond_true,List.length_cons];omega
theorem cut_len(s:Txt):(cut s).length≤s.length+1:=Nat.le_trans (List.length_filter_le _ _) (spl_len s)
def PieceOk(p:Txt):Prop:=p≠[]∧∀i,i<p.length→byteOk (nb p i)=true
theorem cut_ok{s:Txt}(h:targetOk s=true):∀p,p∈cut s→PieceOk p:=by
 intro p hp
 obtain ⟨h1,h2⟩:=List.mem_filter.1 hp
 refine⟨fun h0=>(by rw [full_f.2 h0] at h2;cases h2),fun i hi=>?_⟩
 have hm:p.getD i 0∈p:=by rw [List.getD_eq_getElem?_getD,List.getElem?_eq_getElem hi];exact List.getElem_mem hi
 obtain ⟨h3,h4⟩:=spl_mem h1 _ hm
 unfold targetOk at h
 rw [Bool.and_eq_true] at h
 obtain ⟨j,hj,he⟩:=List.mem_iff_getElem.1 h3
 have:=allN_iff.1 h.1 j hj
 have e:nb s j=nb p i:=by unfold nb;rw [List.getD_eq_getElem?_getD,List.getElem?_eq_getElem hj,← he];rfl
 rw [e] at this
 have h5:(nb p i==47)=false:=by rw [← h4];exact byte47 _
 rw [h5,Bool.false_or] at this
 exact this
theorem lt_irrefl:∀x:Txt,ltS x x=false
 | []=>rfl
 | a :: x=>by
  have:=lt_irrefl x
  unfold ltS at *
  rw [Op.bytesLess]
  simp [this]
theorem lt_tri:∀x y:Txt,ltS x y=false→x=y∨ltS y x=true
 | [],[],_=>.inl rfl
 | [],_ :: _,h=>by unfold ltS Op.bytesLess at h;cases h
 | a :: x,[],_=>.inr (by unfold ltS Op.bytesLess;rfl)
 | a :: x,b :: y,h=>by
  have ih:=lt_tri x y
  unfold ltS at *
  rw [Op.bytesLess] at h
  simp only [Bool.or_eq_false_iff,decide_eq_false_iff_not,Bool.and_eq_false_iff,beq_eq_false_iff_ne] at h
  obtain ⟨h1,h2⟩:=h
  by_cases hab:a=b
  ·subst hab
   rcases h2 with h2 | h2
   ·exact absurd rfl h2
   ·rcases ih h2 with h3 | h3
    ·exact .inl (by rw [h3])
    ·exact .inr (by rw [Op.bytesLess];simp [h3])
  ·refine .inr ?_
   rw [Op.bytesLess]
   have:b<a:=by
    rcases UInt8.lt_or_lt_of_ne hab with h | h
    ·exact absurd h h1
    ·exact h
   simp [this]
theorem lt_trans':∀ {x y z:Txt},ltS x y=true→ltS y z=true→ltS x z=true
 | _,[],_,h,_=>by unfold ltS at h;simp [Op.bytesLess] at h
 | _,_ :: _,[],_,h=>by unfold ltS at h;simp [Op.bytesLess] at h
 | [],_ :: _,_ :: _,_,_=>by unfold ltS;simp [Op.bytesLess]
 | a :: x,b :: y,c :: z,h,k=>by
  have ih:=@lt_trans' x y z
  unfold ltS at *
  rw [Op.bytesLess] at h k ⊢
  simp only [Bool.or_eq_true,decide_eq_true_eq,Bool.and_eq_true,beq_iff_eq] at h k ⊢
  rcases h with h | ⟨rfl,h⟩
  ·rcases k with k | ⟨rfl,k⟩
   ·exact .inl (UInt8.lt_trans h k)
   ·exact .inl h
  ·rcases k with k | ⟨rfl,k⟩
   ·exact .inl k
   ·exact .inr ⟨rfl,ih h k⟩
theorem lt_asymm'{x y:Txt}(h:ltS x y=true):ltS y x=false:=by
 cases hk:ltS y x
 ·rfl
 ·have:=lt_trans' h hk;rw [lt_irrefl] at this;cases this
theorem lt_ne{x y:Txt}(h:ltS x y=true):x≠y:=by rintro rfl;rw [lt_irrefl] at h;cases h
theorem lt_turn{x y:Txt}(h:x≠y):ltS y x = !ltS x y:=by
 cases hk:ltS x y
 ·rcases lt_tri x y hk with h1 | h1
  ·exact absurd h1 h
  ·rw [h1];rfl
 ·rw [lt_asymm' hk];rfl
def Sorted(N:List tDirent.D):Prop:=N.Pairwise fun a b=>ltS a.1 b.1=true
theorem sorted_of{N:List tDirent.D}(h:∀j,j+1<N.length→ltS (gd tDirent N j).1 (gd tDirent N (j+1)).1=true):Sorted N:=by
 unfold Sorted
 rw [List.pairwise_iff_getElem]
 have key:∀d j,j+d+1<N.length→ltS (gd tDirent N j).1 (gd tDirent N (j+d+1)).1=true:=by
  intro d
  induction d with
  | zero=>exact fun j hj=>h j hj
  | succ d ih=>exact fun j hj=>lt_trans' (ih j (by omega)) (h (j+d+1) (by omega))
 intro i j hi hj hij
 have:=key (j-i-1) i (by omega)
 rw [show i +(j-i-1)+1=j by omega,gd_eq hi,gd_eq hj] at this
 exact this
theorem sorted_get{N:List tDirent.D}(h:Sorted N){i j:Nat}(hij:i<j)(hj:j<N.length):ltS (gd tDirent N i).1 (gd tDirent N j).1=true:=by
 unfold Sorted at h
 rw [gd_eq hj,gd_eq (t:=tDirent) (xs:=N) (i:=i) (by omega)]
 exact List.pairwise_iff_getElem.1 h i j (by omega) hj hij
structure InoR(l:List Ino)(x:Ino):Prop where
 mode:0≤modeOf x∧modeOf x≤2047
 uid:0≤uidOf x∧uidOf x≤1000
 gid:0≤gidOf x∧gidOf x≤1000
 kind:kindOf x=1∨kindOf x=2∨kindOf x=3
 plain:kindOf x≠2→maxB x=0∧maxI x=0∧nmsOf x=[]
 file:kindOf x=1→(dataOf x).length≤64
 lnk:kindOf x=3→targetOk (dataOf x)=true∧modeOf x=511
 dir:kindOf x=2→dataOf x=[]∧(0≤maxB x∧maxB x≤400)∧(0≤maxI x∧maxI x≤24)∧(nmsOf x).length≤12
 names:∀d,d∈nmsOf x→nameOk d.1=true∧d.2.1≠1∧(iat l d.2.1).isSome=true
 sorted:Sorted (nmsOf x)
theorem plain_iff{x:Ino} : plain x=true↔maxB x=0∧maxI x=0∧nmsOf x=[]:=by
 unfold plain
 simp only [Bool.and_eq_true,beq_iff_eq]
 constructor
 ·rintro ⟨⟨h1,h2⟩,h3⟩;exact⟨h2,h3,List.length_eq_zero_iff.1 (by omega)⟩
 ·rintro ⟨h1,h2,h3⟩;exact⟨⟨by rw [h3];rfl,h1⟩,h2⟩
theorem names_iff{l:List Ino}{N:List tDirent.D} : allN N.length (nmP l N)=true↔(∀d,d∈N→nameOk d.1=true∧d.2.1≠1∧(iat l d.2.1).isSome=true)∧Sorted N:=by
 rw [allN_iff]
 unfold nmP
 simp only [Bool.and_eq_true,Bool.not_eq_true',Bool.and_eq_false_iff,decide_eq_false_iff_not,Bool.not_eq_false',beq_eq_false_iff_ne]
 constructor
 ·intro h
  refine⟨fun d hd=>?_,sorted_of fun j hj=>?_⟩
  ·obtain ⟨i,hi,he⟩:=mem_gd hd
   obtain ⟨⟨⟨h1,_⟩,h3⟩,h4⟩:=h i hi
   rw [he] at h1 h3 h4
   exact⟨h1,h3,h4⟩
  ·obtain ⟨⟨⟨_,h2⟩,_⟩,_⟩:=h (j+1) hj
   rcases h2 with h2 | h2
   ·omega
   ·rw [Nat.add_sub_cancel] at h2;exact h2
 ·rintro ⟨h1,h2⟩ i hi
  obtain ⟨k1,k2,k3⟩:=h1 _ (gd_mem' hi)
  refine⟨⟨⟨k1,?_⟩,k2⟩,k3⟩
  by_cases h0:0<i
  ·exact .inr (sorted_get h2 (by omega) hi)
  ·exact .inl h0
theorem inoOk_iff{l:List Ino}{x:Ino} : inoOk l x=true↔InoR l x:=by
 unfold inoOk
 simp only [Bool.and_eq_true]
 constructor
 ·rintro ⟨⟨⟨h1,h2⟩,h3⟩,h⟩
  have h1:=inR_iff.1 h1
  have h2:=inR_iff.1 h2
  have h3:=inR_iff.1 h3
  by_cases k1:kindOf x=1
  ·rw [beq_t (show x.2.1=1 from k1)] at h
   simp only [cond_true,Bool.and_eq_true,decide_eq_true_eq] at h
   obtain ⟨p1,p2,p3⟩:=plain_iff.1 h.1
   exact⟨h1,h2,h3,.inl k1,fun _=>⟨p1,p2,p3⟩,fun _=>by omega,fun k=>by omega,fun k=>by omega,by rw [p3];simp,by rw [p3];exact List.Pairwise.nil⟩
  ·rw [beq_f (show ¬x.2.1=1 from k1)] at h
   by_cases k3:kindOf x=3
   ·rw [beq_t (show x.2.1=3 from k3)] at h
    simp only [cond_true,cond_false,Bool.and_eq_true,beq_iff_eq] at h
    obtain ⟨p1,p2,p3⟩:=plain_iff.1 h.1.1
    exact⟨h1,h2,h3,.inr (.inr k3),fun _=>⟨p1,p2,p3⟩,fun k=>by omega,fun _=>⟨h.1.2,h.2⟩,fun k=>by omega,by rw [p3];simp,by rw [p3];exact List.Pairwise.nil⟩
   ·rw [beq_f (show ¬x.2.1=3 from k3)] at h
    by_cases k2:kindOf x=2
    ·rw [beq_t (show x.2.1=2 from k2)] at h
     simp only [cond_true,cond_false,Bool.and_eq_true,namesOk,decide_eq_true_eq] at h
     obtain ⟨⟨⟨e1,e2⟩,e3⟩,e4,e5⟩:=h
     obtain ⟨n1,n2⟩:=names_iff.1 e4
     exact⟨h1,h2,h3,.inr (.inl k2),fun k=>absurd k2 k,fun k=>by omega,fun k=>by omega,fun _=>⟨by unfold eqS at e1;simpa using e1,inR_iff.1 e2,inR_iff.1 e3,by omega⟩,n1,n2⟩
    ·rw [beq_f (show ¬x.2.1=2 from k2)] at h
     simp at h
 ·intro h
  refine⟨⟨⟨inR_iff.2 h.mode,inR_iff.2 h.uid⟩,inR_iff.2 h.gid⟩,?_⟩
  rcases h.kind with k | k | k
  ·have k':x.2.1=1:=k
   rw [beq_t k']
   simp only [cond_true,Bool.and_eq_true,decide_eq_true_eq]
   exact⟨plain_iff.2 (h.plain (by omega)),by have:=h.file k;omega⟩
  ·have k':x.2.1=2:=k
   rw [beq_f (show ¬x.2.1=1 from fun h1=>by have:kindOf x=1:=h1;omega),beq_f (show ¬x.2.1=3 from fun h1=>by have:kindOf x=3:=h1;omega),beq_t k']
   simp only [cond_true,cond_false,Bool.and_eq_true,namesOk,decide_eq_true_eq]
   obtain ⟨d1,d2,d3,d4⟩:=h.dir k
   exact⟨⟨⟨by rw [d1];rfl,inR_iff.2 d2⟩,inR_iff.2 d3⟩,names_iff.2 ⟨h.names,h.sorted⟩,by omega⟩
  ·have k':x.2.1=3:=k
   rw [beq_f (show ¬x.2.1=1 from fun h1=>by have:kindOf x=1:=h1;omega),beq_t k']
   simp only [cond_true,cond_false,Bool.and_eq_true,beq_iff_eq]
   exact⟨⟨plain_iff.2 (h.plain (by omega)),(h.lnk k).1⟩,(h.lnk k).2⟩
def nextOf(v:tVol.D):Int:=v.1
def idOf(x:Ino):Int:=x.1
structure VolR(v:tVol.D):Prop where
 next:2≤nextOf v∧nextOf v≤100000
 len:1≤v.2.1.length∧v.2.1.length≤24
 root:idOf (gd tInode v.2.1 0)=1∧kindOf (gd tInode v.2.1 0)=2
 ids:∀i,i<v.2.1.length→1≤idOf (gd tInode v.2.1 i)∧idOf (gd tInode v.2.1 i)≤nextOf v-1
 rises:∀i,i+1<v.2.1.length→idOf (gd tInode v.2.1 i)<idOf (gd tInode v.2.1 (i+1))
 ino:∀i,i<v.2.1.length→InoR v.2.1 (gd tInode v.2.1 i)
 reach:∀i,1≤i→i<v.2.1.length→Bel v.2.1 1 (gd tInode v.2.1 i).1
 once:∀i,1≤i→i<v.2.1.length→kindOf (gd tInode v.2.1 i)=2→namedN v.2.1 (gd tInode v.2.1 i).1=1
 bytes:bytesOf v.2.1≤400
 over:overAny v.2.1=false
theorem dist_rises{l:List Ino}(h:∀i,i+1<l.length→idOf (gd tInode l i)<idOf (gd tInode l (i+1))):Dist l:=by
 have hlt:∀d j,j+d+1<l.length→idOf (gd tInode l j)<idOf (gd tInode l (j+d+1)):=by
  intro d
  induction d with
  | zero=>intro j hj;exact h j hj
  | succ d ih=>intro j hj;exact Int.lt_trans (ih j (by omega)) (h (j+d+1) hj)
 intro x hx
 unfold iat
 rw [fnd_some]
 refine⟨hx,by simp,fun j hj=>?_⟩
 obtain ⟨d,rfl⟩:∃d,x=j+d+1:=⟨x-j-1,by omega⟩
 have:=hlt d j hx
 rw [beq_eq_false_iff_ne]
 exact Int.ne_of_lt this
theorem v1_iff{v:tVol.D}(hn:2≤nextOf v∧nextOf v≤100000):allN v.2.1.length (v1P v)=true↔(∀i,i<v.2.1.length→1≤idOf (gd tInode v.2.1 i)∧idOf (gd tInode v.2.1 i)≤nextOf v-1) ∧
  (∀i,i+1<v.2.1.length→idOf (gd tInode v.2.1 i)<idOf (gd tInode v.2.1 (i+1)))∧∀i,i<v.2.1.length→InoR v.2.1 (gd tInode v.2.1 i):=by
 rw [allN_iff]
 unfold v1P
 rw [show w64 (v.1-1)=nextOf v-1 from w64_sm (a:=nextOf v-1) (by omega) (by omega)]
 simp only [Bool.and_eq_true,Bool.not_eq_true',Bool.and_eq_false_iff,decide_eq_false_iff_not]
 constructor
 ·intro h
  refine⟨fun i hi=>inR_iff.1 (h i hi).1.1,fun i hi=>?_,fun i hi=>inoOk_iff.1 (h i hi).2⟩
  rcases (h (i+1) hi).1.2 with h2 | h2
  ·omega
  ·rw [Nat.add_sub_cancel] at h2;exact Int.not_le.1 h2
 ·rintro ⟨h1,h2,h3⟩ i hi
  refine⟨⟨inR_iff.2 (h1 i hi),?_⟩,inoOk_iff.2 (h3 i hi)⟩
  by_cases h0:0<i
  ·have:=h2 (i-1) (by omega)
   rw [show i-1+1=i by omega] at this
   exact .inr (Int.not_le.2 this)
  ·exact .inl h0
theorem volOk_iff{v:tVol.D} : volOk v=true↔VolR v:=by
 unfold volOk
 simp only [Bool.and_eq_true,beq_iff_eq]
 constructor
 ·rintro ⟨⟨⟨⟨h1,h2⟩,h3⟩,h4⟩,h5⟩
  have h1:=inR_iff.1 h1
  have h2:=inR_iff.1 h2
  by_cases a1:allN v.2.1.length (v1P v)=true
  case neg=>rw [Bool.not_eq_true] at a1;rw [a1] at h5;cases h5
  rw [a1] at h5
  obtain ⟨i1,i2,i3⟩:=(v1_iff h1).1 a1
  have hd:=dist_rises i2
  by_cases a2:allN (v.2.1.length-1) (v2P v.2.1)=true
  case neg=>rw [Bool.not_eq_true] at a2;rw [a2] at h5;cases h5
  rw [a2] at h5
  simp only [cond_true,Bool.and_eq_true,Bool.not_eq_true',decide_eq_true_eq] at h5
  have a2:=allN_iff.1 a2
  unfold v2P at a2
  simp only [Bool.and_eq_true,Bool.not_eq_true',Bool.and_eq_false_iff,beq_eq_false_iff_ne,bne_eq_false_iff_eq] at a2
  refine⟨h1,by omega,⟨h3,h4⟩,i1,i2,i3,fun i hi hl=>?_,fun i hi hl hk=>?_,by omega,h5.2⟩
  ·have:=(a2 (i-1) (by omega)).1
   rw [show i-1+1=i by omega] at this
   exact(belowF_iff v.2.1 hd 1 hl).1 this
  ·have:=(a2 (i-1) (by omega)).2
   rw [show i-1+1=i by omega] at this
   rcases this with h | h
   ·exact absurd hk h
   ·omega
 ·intro h
  have hd:=dist_rises h.rises
  refine⟨⟨⟨⟨inR_iff.2 h.next,inR_iff.2 (by have:=h.len;omega)⟩,h.root.1⟩,h.root.2⟩,?_⟩
  rw [(v1_iff h.next).2 ⟨h.ids,h.rises,h.ino⟩]
  have a2:allN (v.2.1.length-1) (v2P v.2.1)=true:=by
   rw [allN_iff]
   unfold v2P
   simp only [Bool.and_eq_true,Bool.not_eq_true',Bool.and_eq_false_iff,beq_eq_false_iff_ne,bne_eq_false_iff_eq]
   intro i hi
   refine⟨(belowF_iff v.2.1 hd 1 (by omega)).2 (h.reach (i+1) (by omega) (by omega)),?_⟩
   by_cases hk:kindOf (gd tInode v.2.1 (i+1))=2
   ·have:=h.once (i+1) (by omega) (by omega) hk
    exact .inr (by rw [this];rfl)
   ·exact .inl hk
  rw [a2]
  simp only [cond_true,Bool.and_eq_true,Bool.not_eq_true',decide_eq_true_eq]
  exact⟨by have:=h.bytes;omega,h.over⟩
structure Wk(l:List Ino):Prop where
 len:l.length≤1048576
 nms:nmsN l≤1048576
 dist:Dist l
 exs:Exs l
 bare:∀i,i<l.length→kindOf (gd tInode l i)≠2→nmsOf (gd tInode l i)=[]
 lnk:∀i,i<l.length→kindOf (gd tInode l i)=3→targetOk (dataOf (gd tInode l i))=true
 root:∃i,iat l 1=some i∧kindOf (gd tInode l i)=2
theorem VolR.dist{v:tVol.D}(h:VolR v):Dist v.2.1:=dist_rises h.rises
theorem VolR.exs{v:tVol.D}(h:VolR v):Exs v.2.1:=fun i hi d hd=>((h.ino i hi).names d hd).2.2
def IsD(l:List Ino)(id:Int):Prop:=∃i,iat l id=some i∧kindOf (gd tInode l i)=2
def dirOf(r:tSpot.D):Int:=r.1
def nameOf(r:tSpot.D):Txt:=r.2.1
def idS(r:tSpot.D):Int:=r.2.2.1
def codeS(r:tSpot.D):Int:=r.2.2.2.1
structure SpotOk(l:List Ino)(r:tSpot.D):Prop where
 there:codeS r=0→∃i,iat l (idS r)=some i
 named:codeS r=0→nameOf r≠[]→idS r≠0∧nameOk (nameOf r)=true∧∃d,iat l (dirOf r)=some d∧kindOf (gd tInode l d)=2∧lookN (nmsOf (gd tInode l d)) (nameOf r)=idS r
 bare:codeS r=0→nameOf r=[]→IsD l (idS r)
 new:codeS r=2→nameOf r≠[]→idS r=0∧nameOk (nameOf r)=true∧∃d,iat l (dirOf r)=some d∧kindOf (gd tInode l d)=2∧lookN (nmsOf (gd tInode l d)) (nameOf r)=0
theorem spot_code(l:List Ino){c:Int}(h0:c≠0)(a b:Int)(h2:c≠2∨True):SpotOk l ((0:Int),([]:Txt),(0:Int),c,()) :=
 ⟨fun h=>absurd h h0,fun h=>absurd h h0,fun h=>absurd h h0,fun _ h=>absurd rfl h⟩
theorem parOf_dir{l:List Ino}(h:Wk l)(id:Int):IsD l (parOf l id):=by
 unfold parOf
 cases hp:parI l id with
 | none=>exact h.root
 | some i =>
  obtain ⟨h1,h2,_⟩:=fnd_some.1 hp
  refine⟨i,h.dist i h1,?_⟩
  by_cases hk:kindOf (gd tInode l i)=2
  ·exact hk
  ·have:=h.bare i h1 hk
   rw [this] at h2
   simp [hasId,fnd] at h2
theorem lookN_mem{N:List tDirent.D}{s:Txt}(h:lookN N s≠0):∃d,d∈N∧d.1=s∧d.2.1=lookN N s:=by
 unfold lookN at h ⊢
 cases hf:fnd N.length (nameP N s) with
 | none=>rw [hf] at h;exact absurd rfl h
 | some j =>
  obtain ⟨h1,h2,_⟩:=fnd_some.1 hf
  exact⟨gd tDirent N j,gd_mem' h1,by unfold nameP eqS at h2;simpa using h2,rfl⟩
theorem piece_name{p:Txt}(h:PieceOk p)(h1:eqS p [46]=false)(h2:eqS p [46,46]=false)(h8:p.length≤8):nameOk p=true:=by
 have hl:1≤p.length:=by
  rcases Nat.eq_zero_or_pos p.length with h0 | h0
  ·exact absurd (List.length_eq_zero_iff.1 h0) h.1
  ·exact h0
 unfold nameOk
 rw [h1,h2,allN_iff.2 (fun i hi=>h.2 i hi),inR_iff.2 ⟨by omega,by omega⟩];rfl
theorem part_get{L:List Txt}{a c:Nat}(h:0<c)(hl:a+c≤L.length):gd Ty.str L a∈part L a c:=by
 unfold part
 have h1:a<L.length:=by omega
 rw [List.drop_eq_getElem_cons h1,show c=(c-1)+1 by omega,List.take_succ_cons,gd_eq (t:=.str) h1]
 exact List.mem_cons_self
theorem part_tl{L:List Txt}{a c:Nat} : ∀p,p∈part L (a+1) (c-1)→p∈part L a c:=by
 intro p hp
 unfold part at *
 rcases Nat.eq_zero_or_pos c with h | h
 ·subst h;simp at hp
 ·rcases Nat.lt_or_ge a L.length with h1 | h1
  ·rw [List.drop_eq_getElem_cons h1,show c=(c-1)+1 by omega,List.take_succ_cons]
   exact List.mem_cons_of_mem _ hp
  ·rw [List.drop_of_length_le (by omega)] at hp;simp at hp
theorem target_pos{s:Txt}(h:targetOk s=true):1≤s.length∧s.length≤60:=by
 unfold targetOk at h
 rw [Bool.and_eq_true] at h
 have:=inR_iff.1 h.2
 omega
theorem wS4(m:Nat)(x1 x2 x3 x4 x5 x6 x7 x8 x9):(spec_l6Walk_L (m+1)).k4 x1 x2 x3 x4 x5 x6 x7 x8 x9=spec_l6Walk_b4 (spec_l6Walk_L m) x1 x2 x3 x4 x5 x6 x7 x8 x9:=rfl
theorem wS21(m:Nat)(x1 x2 x3 x4 x5 x6 x7 x8 x9 x10 x11 x12 x13):(spec_l6Walk_L (m+1)).k21 x1 x2 x3 x4 x5 x6 x7 x8 x9 x10 x11 x12 x13=spec_l6Walk_b21 (spec_l6Walk_L m) x1 x2 x3 x4 x5 x6 x7 x8 x9 x10 x11 x12 x13:=rfl
theorem wS22(m:Nat)(x1 x2 x3 x4 x5 x6 x7 x8 x9 x10):(spec_l6Walk_L (m+1)).k22 x1 x2 x3 x4 x5 x6 x7 x8 x9 x10=spec_l6Walk_b22 (spec_l6Walk_L m) x1 x2 x3 x4 x5 x6 x7 x8 x9 x10:=rfl
theorem wS30(m:Nat)(x1 x2 x3 x4 x5 x6 x7 x8 x9 x10 x11 x12 x13):(spec_l6Walk_L (m+1)).k30 x1 x2 x3 x4 x5 x6 x7 x8 x9 x10 x11 x12 x13=spec_l6Walk_b30 (spec_l6Walk_L m) x1 x2 x3 x4 x5 x6 x7 x8 x9 x10 x11 x12 x13:=rfl
theorem wS27(m:Nat)(x1 x2 x3 x4 x5 x6 x7 x8 x9 x10):(spec_l6Walk_L (m+1)).k27 x1 x2 x3 x4 x5 x6 x7 x8 x9 x10=spec_l6Walk_b27 (spec_l6Walk_L m) x1 x2 x3 x4 x5 x6 x7 x8 x9 x10:=rfl
theorem gd_one(x:Ino):gd tInode [x] 0=x:=rfl
theorem Ev.jump{β : Type}{f g:Nat → β}{B:Nat}(k:Nat){y : β}(h:Ev g B y)(hf:∀m,f (m+k)=g m):Ev f (B+k) y:=by
 intro m hm
 obtain ⟨j,rfl⟩:∃j,m=j+k:=⟨m-k,by omega⟩
 rw [hf];exact h j (by omega)
theorem Ev.now{β : Type}{f:Nat → β}(k:Nat){y : β}(hf:∀m,f (m+k)=y):Ev f k y:=by
 intro m hm
 obtain ⟨j,rfl⟩:∃j,m=j+k:=⟨m-k,by omega⟩
 exact hf j
theorem walk_both(v:tVol.D)(c:tCred.D)(hw:Wk v.2.1)(hc:credOk c=true)(fo:Bool)(z:tSpot.D):∀(n:Nat) (at_:Int) (k:Nat) (L:List Txt) (a cnt:Nat),(8-k)*100+cnt≤n→k≤8→a+cnt≤L.length→cnt≤100→(∀p,p∈part L a cnt→PieceOk p)→IsD v.2.1 at_ →
  ∃r,SpotOk v.2.1 r∧Ev (fun m=>impl_Vol_walk_L3 m v fo a cnt at_ (k:Int) c z L) (n+2) (some (r,()))∧Ev (fun m=>(spec_l6Walk_L m).k4 fo a cnt at_ (k:Int) v c z L) (5*n+5) (some (r,())):=by
 intro n
 induction n with
 | zero =>
  intro at_ k L a cnt hn hk hl hcn hp hat
  have h0:cnt=0:=by omega
  subst h0
  obtain ⟨d,hd,hdk⟩:=hat
  refine⟨((0:Int),([]:Txt),at_,(0:Int),()),⟨fun _=>⟨d,hd⟩,fun _ h=>absurd rfl h,fun _ _=>⟨d,hd,hdk⟩,fun _ h=>absurd rfl h⟩,(Ev.now 1 fun m=>?_).mono (by omega),(Ev.now 1 fun m=>?_).mono (by omega)⟩
  ·simp only [impl_Vol_walk_L3,impl_Vol_walk_b3];rfl
  ·rw [wS4];unfold spec_l6Walk_b4;rfl
 | succ n ih =>
  intro at_ k L a cnt hn hk hl hcn hp hat
  rcases Nat.eq_zero_or_pos cnt with h0 | h0
  ·subst h0
   obtain ⟨d,hd,hdk⟩:=hat
   refine⟨((0:Int),([]:Txt),at_,(0:Int),()),⟨fun _=>⟨d,hd⟩,fun _ h=>absurd rfl h,fun _ _=>⟨d,hd,hdk⟩,fun _ h=>absurd rfl h⟩,(Ev.now 1 fun m=>?_).mono (by omega),(Ev.now 1 fun m=>?_).mono (by omega)⟩
   ·simp only [impl_Vol_walk_L3,impl_Vol_walk_b3];rfl
   ·rw [wS4];unfold spec_l6Walk_b4;rfl
  obtain ⟨d,hd,hdk⟩:=hat
  have hdl:=iat_lt hd
  have hnd:(nmsOf (gd tInode v.2.1 d)).length≤1048576:=Nat.le_trans (nms_get hdl.1) hw.nms
  have hpa:=hp _ (part_get h0 hl)
  have hrest:∀p,p∈part L (a+1) (cnt-1)→PieceOk p:=fun p h=>hp p (part_tl p h)
  have hix:ix cnt 0=some 0:=ix_nat (i:=0) h0
  have hrg:rng cnt 1 (cnt:Int)=some (1,cnt):=rng_nat (lo:=1) h0 (Nat.le_refl _)
  have hpos:decide ((cnt:Int)>0)=true:=decide_eq_true (by omega)
  have hino:=impl_inode_some v at_ hw.len hd
  have hmay:=impl_May_eq c (gd tInode v.2.1 d) 1 hc
  have hmayS:=spec_May_eq c (gd tInode v.2.1 d) 1 hc
  have hpar:=impl_parent_eq v at_ hw.len hw.nms
  have hparS:=spec_Parent_eq v at_ hw.len hw.nms
  have hAt:spec_l4At (v,at_,())=some ((d:Int),()):=by rw [spec_At_eq v at_ hw.len,hd];rfl
  have hixd:ix v.2.1.length (d:Int)=some d:=ix_nat hdl.1
  have hfind:=impl_find_eq (gd tInode v.2.1 d) (gd Ty.str L a) hnd
  have hfindS:=spec_Look_eq v at_ (gd Ty.str L a) hw.len hd hnd
  cases hm:may c (gd tInode v.2.1 d) 1 with
  | false =>
   refine⟨((0:Int),([]:Txt),(0:Int),(13:Int),()),spot_code _ (by decide) 0 0 (.inr trivial),(Ev.now 1 fun m=>?_).mono (by omega),(Ev.now 1 fun m=>?_).mono (by omega)⟩
   ·rw [impl_Vol_walk_L3,impl_Vol_walk_b3]
    simp -index only [hpos,hix,hrg,hino,gd_one,hmay,hm,cond_true,cond_false,obs,Bool.not_true,Bool.not_false,List.isEmpty_cons]
   ·rw [wS4];unfold spec_l6Walk_b4
    simp only [hpos,hix,hrg,hAt,hixd,hmayS,hm,cond_true,cond_false,obs,Bool.not_true,Bool.not_false]
  | true =>
  cases h1:eqS (gd Ty.str L a) [46] with
  | true =>
   obtain ⟨r,r1,r2,r3⟩:=ih at_ k L (a+1) (cnt-1) (by omega) hk (by omega) (by omega) hrest ⟨d,hd,hdk⟩
   refine⟨r,r1,(r2.jump (f:=fun m=>impl_Vol_walk_L3 m v fo a cnt at_ (k:Int) c z L) 1 fun m=>?_).mono (by omega),(r3.jump (f:=fun m=>(spec_l6Walk_L m).k4 fo a cnt at_ (k:Int) v c z L) 1 fun m=>?_).mono (by omega)⟩
   ·rw [impl_Vol_walk_L3,impl_Vol_walk_b3]
    simp -index only [hpos,hix,hrg,hino,gd_one,hmay,hm,h1,cond_true,cond_false,obs,Bool.not_true,Bool.not_false,List.isEmpty_cons,Nat.add_zero]
   ·rw [wS4];unfold spec_l6Walk_b4
    simp only [hpos,hix,hrg,hAt,hixd,hmayS,hm,h1,cond_true,cond_false,obs,Bool.not_true,Bool.not_false,Nat.add_zero]
  | false =>
  cases h2:eqS (gd Ty.str L a) [46,46] with
  | true =>
   obtain ⟨r,r1,r2,r3⟩:=ih (parOf v.2.1 at_) k L (a+1) (cnt-1) (by omega) hk (by omega) (by omega) hrest (parOf_dir hw _)
   refine⟨r,r1,(r2.jump (f:=fun m=>impl_Vol_walk_L3 m v fo a cnt at_ (k:Int) c z L) 1 fun m=>?_).mono (by omega),(r3.jump (f:=fun m=>(spec_l6Walk_L m).k4 fo a cnt at_ (k:Int) v c z L) 1 fun m=>?_).mono (by omega)⟩
   ·rw [impl_Vol_walk_L3,impl_Vol_walk_b3]
    simp -index only [hpos,hix,hrg,hino,gd_one,hmay,hm,h1,h2,hpar,cond_true,cond_false,obs,Bool.not_true,Bool.not_false,List.isEmpty_cons,Nat.add_zero]
   ·rw [wS4];unfold spec_l6Walk_b4
    simp only [hpos,hix,hrg,hAt,hixd,hmayS,hm,h1,h2,hparS,cond_true,cond_false,obs,Bool.not_true,Bool.not_false,Nat.add_zero]
  | false =>
  cases h8:decide (((gd Ty.str L a).length:Int)>8) with
  | true =>
   refine⟨((0:Int),([]:Txt),(0:Int),(36:Int),()),spot_code _ (by decide) 0 0 (.inr trivial),(Ev.now 1 fun m=>?_).mono (by omega),(Ev.now 1 fun m=>?_).mono (by omega)⟩
   ·rw [impl_Vol_walk_L3,impl_Vol_walk_b3]
    simp -index only [hpos,hix,hrg,hino,gd_one,hmay,hm,h1,h2,h8,cond_true,cond_false,obs,Bool.not_true,Bool.not_false,List.isEmpty_cons,Nat.add_zero]
   ·rw [wS4];unfold spec_l6Walk_b4
    simp only [hpos,hix,hrg,hAt,hixd,hmayS,hm,h1,h2,h8,cond_true,cond_false,obs,Bool.not_true,Bool.not_false,Nat.add_zero]
  | false =>
  have hname:nameOk (gd Ty.str L a)=true:=piece_name hpa h1 h2 (by
   have:=of_decide_eq_false h8
   have h:¬((gd Ty.str L a).length:Int)>8:=this
   omega)
  cases hl0:lookN (nmsOf (gd tInode v.2.1 d)) (gd Ty.str L a)==0 with
  | true =>
   cases hlast:((cnt-1:Nat):Int)==0 with
   | true =>
    refine⟨(at_,gd Ty.str L a,(0:Int),(2:Int),()),⟨fun h=>(by cases h),fun h=>(by cases h),fun h=>(by cases h),fun _ _=>⟨rfl,hname,d,hd,hdk,beq_iff_eq.1 hl0⟩⟩,(Ev.now 1 fun m=>?_).mono (by omega),(Ev.now 1 fun m=>?_).mono (by omega)⟩
    ·rw [impl_Vol_walk_L3,impl_Vol_walk_b3]
     simp -index only [hpos,hix,hrg,hino,gd_one,hmay,hm,h1,h2,h8,hfind,hl0,hlast,cond_true,cond_false,obs,Bool.not_true,Bool.not_false,List.isEmpty_cons,Nat.add_zero]
    ·rw [wS4];unfold spec_l6Walk_b4
     simp only [hpos,hix,hrg,hAt,hixd,hmayS,hm,h1,h2,h8,hfindS,hl0,hlast,cond_true,cond_false,obs,Bool.not_true,Bool.not_false,Nat.add_zero]
   | false =>
    refine⟨((0:Int),([]:Txt),(0:Int),(2:Int),()),⟨fun h=>(by cases h),fun h=>(by cases h),fun h=>(by cases h),fun _ h=>absurd rfl h⟩,(Ev.now 1 fun m=>?_).mono (by omega),(Ev.now 1 fun m=>?_).mono (by omega)⟩
    ·rw [impl_Vol_walk_L3,impl_Vol_walk_b3]
     simp -index only [hpos,hix,hrg,hino,gd_one,hmay,hm,h1,h2,h8,hfind,hl0,hlast,cond_true,cond_false,obs,Bool.not_true,Bool.not_false,List.isEmpty_cons,Nat.add_zero]
    ·rw [wS4];unfold spec_l6Walk_b4
     simp only [hpos,hix,hrg,hAt,hixd,hmayS,hm,h1,h2,h8,hfindS,hl0,hlast,cond_true,cond_false,obs,Bool.not_true,Bool.not_false,Nat.add_zero]
  | false =>
  obtain ⟨e,he,he1,he2⟩:=lookN_mem (N:=nmsOf (gd tInode v.2.1 d)) (s:=gd Ty.str L a) (by simpa using hl0)
  obtain ⟨i2,hi2⟩:=Option.isSome_iff_exists.1 (hw.exs d hdl.1 e he)
  rw [he2] at hi2
  have hi2l:=iat_lt hi2
  have hino2:=impl_inode_some v _ hw.len hi2
  have hAt2:spec_l4At (v,lookN (nmsOf (gd tInode v.2.1 d)) (gd Ty.str L a),())=some ((i2:Int),()):=by rw [spec_At_eq v _ hw.len,hi2];rfl
  have hixd2:ix v.2.1.length (i2:Int)=some i2:=ix_nat hi2l.1
  have hfol:((gd tInode v.2.1 i2).2.1==3)=true→(!(((cnt-1:Nat):Int)==0)||fo)=true→∃r,SpotOk v.2.1 r∧Ev (fun m=>impl_Vol_walk_L3 m v fo a cnt at_ (k:Int) c z L) (n+1+2) (some (r,()))∧Ev (fun m=>(spec_l6Walk_L m).k4 fo a cnt at_ (k:Int) v c z L) (5*(n+1)+5) (some (r,())):=by
   intro hk3 hlf
   have htg:=hw.lnk i2 hi2l.1 (beq_iff_eq.1 hk3)
   have htp:=target_pos htg
   have hixdat:ix ((gd tInode v.2.1 i2).2.2.2.2.2.1).length 0=some 0:=ix_nat (i:=0) htp.1
   have hpc:impl_pieces ((gd tInode v.2.1 i2).2.2.2.2.2.1,())=some (cut (dataOf (gd tInode v.2.1 i2)),()):=pieces_eq _ (Nat.le_trans htp.2 (by omega))
   have hpcS:spec_l6Cut ((gd tInode v.2.1 i2).2.2.2.2.2.1,())=some (cut (dataOf (gd tInode v.2.1 i2)),()):=spec_Cut_eq _ (Nat.le_trans htp.2 (by omega))
   have hcl:=cut_len (dataOf (gd tInode v.2.1 i2))
   have hpl:(part L (a+1) (cnt-1)).length≤100:=by unfold part;rw [List.length_take];omega
   have hroom:room ((cut (dataOf (gd tInode v.2.1 i2))).length +(part L (a+1) (cnt-1)).length)=true:=room_t (by omega)
   have hcut:=cut_ok htg
   generalize hL':cut (dataOf (gd tInode v.2.1 i2))++part L (a+1) (cnt-1)=L' at *
   have hpL:∀p,p∈L'→PieceOk p:=by
    intro p hp'
    rw [← hL'] at hp'
    rcases List.mem_append.1 hp' with h | h
    ·exact hcut p h
    ·exact hrest p h
   obtain ⟨at',hat',gI,gS⟩:∃at',IsD v.2.1 at'∧(∀m,impl_Vol_walk_L3 (m+1) v fo a cnt at_ (k:Int) c z L=cond ((k:Int)==8) (some (((0:Int),([]:Txt),(0:Int),(40:Int),()),()))
      (cond (decide ((L'.length:Int)>40)) (some (((0:Int),([]:Txt),(0:Int),(36:Int),()),())) (impl_Vol_walk_L3 m v fo 0 L'.length at' (w64 ((k:Int)+1)) c z L'))) ∧
     ∀m,(spec_l6Walk_L (m+4)).k4 fo a cnt at_ (k:Int) v c z L=cond (decide (w64 ((k:Int)+1)>8)) (some (((0:Int),([]:Txt),(0:Int),(40:Int),()),()))
      (cond (decide ((L'.length:Int)>40)) (some (((0:Int),([]:Txt),(0:Int),(36:Int),()),())) ((spec_l6Walk_L m).k4 fo 0 L'.length at' (w64 ((k:Int)+1)) v c z L')):=by
    cases hb:((((gd tInode v.2.1 i2).2.2.2.2.2.1).getD 0 0).toNat:Int)==47 with
    | false =>
     refine⟨at_,⟨d,hd,hdk⟩,fun m=>?_,fun m=>?_⟩
     ·rw [impl_Vol_walk_L3,impl_Vol_walk_b3]
      cases hlast:((cnt-1:Nat):Int)==0 with
      | false =>
       simp -index only [hpos,hix,hrg,hino,gd_one,hmay,hm,h1,h2,h8,hfind,hl0,hino2,hk3,hlast,hixdat,hb,hpc,hroom,hL',impl_Vol_walk_b3_v12,cond_true,cond_false,obs,Bool.not_true,Bool.not_false,List.isEmpty_cons,Nat.add_zero]
      | true =>
       rw [hlast] at hlf
       have hlf:fo=true:=hlf
       simp -index only [hpos,hix,hrg,hino,gd_one,hmay,hm,h1,h2,h8,hfind,hl0,hino2,hk3,hlast,hlf,hixdat,hb,hpc,hroom,hL',impl_Vol_walk_b3_v17,cond_true,cond_false,obs,Bool.not_true,Bool.not_false,List.isEmpty_cons,Nat.add_zero]
     ·rw [wS4];unfold spec_l6Walk_b4
      simp only [hpos,hix,hrg,hAt,hixd,hmayS,hm,h1,h2,h8,hfindS,hl0,dup_eq,hAt2,hixd2,cond_true,cond_false,obs,Bool.not_true,Bool.not_false,Nat.add_zero]
      rw [wS21];unfold spec_l6Walk_b21
      have:(cond (!(((cnt-1:Nat):Int)==0)) ((spec_l6Walk_L (m+2)).k22 fo (a+1) (cnt-1) at_ (k:Int) v c z L (gd tInode v.2.1 i2)) (cond fo ((spec_l6Walk_L (m+2)).k22 fo (a+1) (cnt-1) at_ (k:Int) v c z L (gd tInode v.2.1 i2)) ((spec_l6Walk_L (m+2)).k30 fo (a+1) (cnt-1) at_ (k:Int) (gd Ty.str L a) (((cnt-1:Nat):Int)==0) (lookN (nmsOf (gd tInode v.2.1 d)) (gd Ty.str L a)) v c z L (gd tInode v.2.1 i2))))=(spec_l6Walk_L (m+2)).k22 fo (a+1) (cnt-1) at_ (k:Int) v c z L (gd tInode v.2.1 i2):=by
       revert hlf
       cases ((cnt-1:Nat):Int)==0 <;> cases fo <;> intro hlf <;> first | rfl | cases hlf
      rw [hk3]
      simp only [cond_true]
      refine this.trans ?_
      rw [wS22];unfold spec_l6Walk_b22
      rw [hixdat]
      simp only [obs,hb,cond_false]
      rw [wS27];unfold spec_l6Walk_b27
      rw [hpcS]
      simp only [obs,hroom,cond_true,hL']
    | true =>
     refine⟨1,hw.root,fun m=>?_,fun m=>?_⟩
     ·rw [impl_Vol_walk_L3,impl_Vol_walk_b3]
      cases hlast:((cnt-1:Nat):Int)==0 with
      | false =>
       simp -index only [hpos,hix,hrg,hino,gd_one,hmay,hm,h1,h2,h8,hfind,hl0,hino2,hk3,hlast,hixdat,hb,hpc,hroom,hL',impl_Vol_walk_b3_v10,cond_true,cond_false,obs,Bool.not_true,Bool.not_false,List.isEmpty_cons,Nat.add_zero]
      | true =>
       rw [hlast] at hlf
       have hlf:fo=true:=hlf
       simp -index only [hpos,hix,hrg,hino,gd_one,hmay,hm,h1,h2,h8,hfind,hl0,hino2,hk3,hlast,hlf,hixdat,hb,hpc,hroom,hL',impl_Vol_walk_b3_v15,cond_true,cond_false,obs,Bool.not_true,Bool.not_false,List.isEmpty_cons,Nat.add_zero]
     ·rw [wS4];unfold spec_l6Walk_b4
      simp only [hpos,hix,hrg,hAt,hixd,hmayS,hm,h1,h2,h8,hfindS,hl0,dup_eq,hAt2,hixd2,cond_true,cond_false,obs,Bool.not_true,Bool.not_false,Nat.add_zero]
      rw [wS21];unfold spec_l6Walk_b21
      have:(cond (!(((cnt-1:Nat):Int)==0)) ((spec_l6Walk_L (m+2)).k22 fo (a+1) (cnt-1) at_ (k:Int) v c z L (gd tInode v.2.1 i2)) (cond fo ((spec_l6Walk_L (m+2)).k22 fo (a+1) (cnt-1) at_ (k:Int) v c z L (gd tInode v.2.1 i2)) ((spec_l6Walk_L (m+2)).k30 fo (a+1) (cnt-1) at_ (k:Int) (gd Ty.str L a) (((cnt-1:Nat):Int)==0) (lookN (nmsOf (gd tInode v.2.1 d)) (gd Ty.str L a)) v c z L (gd tInode v.2.1 i2))))=(spec_l6Walk_L (m+2)).k22 fo (a+1) (cnt-1) at_ (k:Int) v c z L (gd tInode v.2.1 i2):=by
       revert hlf
       cases ((cnt-1:Nat):Int)==0 <;> cases fo <;> intro hlf <;> first | rfl | cases hlf
      rw [hk3]
      simp only [cond_true]
      refine this.trans ?_
      rw [wS22];unfold spec_l6Walk_b22
      rw [hixdat]
      simp only [obs,hb,cond_true]
      rw [wS27];unfold spec_l6Walk_b27
      rw [hpcS]
      simp only [obs,hroom,cond_true,hL']
   have hwk:w64 ((k:Int)+1)=((k+1:Nat):Int):=inc_i k (by omega)
   rw [hwk] at gI gS
   rcases Nat.lt_or_ge k 8 with hk8 | hk8
   ·rw [show((k:Int)==8)=false by simp;omega] at gI
    rw [show decide (((k+1:Nat):Int)>8)=false from decide_eq_false (by omega)] at gS
    simp only [cond_false] at gI gS
    cases h40:decide ((L'.length:Int)>40) with
    | true =>
     rw [h40] at gI gS
     refine⟨((0:Int),([]:Txt),(0:Int),(36:Int),()),spot_code _ (by decide) 0 0 (.inr trivial),(Ev.now 1 fun m=>gI m).mono (by omega),(Ev.now 4 fun m=>gS m).mono (by omega)⟩
    | false =>
     rw [h40] at gI gS
     have h40:=of_decide_eq_false h40
     obtain ⟨r,r1,r2,r3⟩:=ih at' (k+1) L' 0 L'.length (by omega) (by omega) (by omega) (by omega) (by rw [part_all];exact hpL) hat'
     exact⟨r,r1,(r2.jump (f:=fun m=>impl_Vol_walk_L3 m v fo a cnt at_ (k:Int) c z L) 1 fun m=>gI m).mono (by omega),(r3.jump (f:=fun m=>(spec_l6Walk_L m).k4 fo a cnt at_ (k:Int) v c z L) 4 fun m=>gS m).mono (by omega)⟩
   ·rw [show((k:Int)==8)=true by simp;omega] at gI
    rw [show decide (((k+1:Nat):Int)>8)=true from decide_eq_true (by omega)] at gS
    refine⟨((0:Int),([]:Txt),(0:Int),(40:Int),()),spot_code _ (by decide) 0 0 (.inr trivial),(Ev.now 1 fun m=>gI m).mono (by omega),(Ev.now 4 fun m=>gS m).mono (by omega)⟩
  have hno:(∀m,impl_Vol_walk_L3 (m+1) v fo a cnt at_ (k:Int) c z L=cond (((cnt-1:Nat):Int)==0) (some ((at_,gd Ty.str L a,lookN (nmsOf (gd tInode v.2.1 d)) (gd Ty.str L a),(0:Int),()),()))
     (cond ((gd tInode v.2.1 i2).2.1 != 2) (some (((0:Int),([]:Txt),(0:Int),(20:Int),()),())) (impl_Vol_walk_L3 m v fo (a+1) (cnt-1) (lookN (nmsOf (gd tInode v.2.1 d)) (gd Ty.str L a)) (k:Int) c z L))) →
    (∀m,(spec_l6Walk_L (m+3)).k4 fo a cnt at_ (k:Int) v c z L=cond (((cnt-1:Nat):Int)==0) (some ((at_,gd Ty.str L a,lookN (nmsOf (gd tInode v.2.1 d)) (gd Ty.str L a),(0:Int),()),()))
     (cond ((gd tInode v.2.1 i2).2.1 != 2) (some (((0:Int),([]:Txt),(0:Int),(20:Int),()),())) ((spec_l6Walk_L m).k4 fo (a+1) (cnt-1) (lookN (nmsOf (gd tInode v.2.1 d)) (gd Ty.str L a)) (k:Int) v c z L))) →
    ∃r,SpotOk v.2.1 r∧Ev (fun m=>impl_Vol_walk_L3 m v fo a cnt at_ (k:Int) c z L) (n+1+2) (some (r,()))∧Ev (fun m=>(spec_l6Walk_L m).k4 fo a cnt at_ (k:Int) v c z L) (5*(n+1)+5) (some (r,())):=by
   intro g1 g2
   cases hlast:((cnt-1:Nat):Int)==0 with
   | true =>
    refine⟨(at_,gd Ty.str L a,lookN (nmsOf (gd tInode v.2.1 d)) (gd Ty.str L a),(0:Int),()),⟨fun _=>⟨i2,hi2⟩,fun _ _=>⟨beq_eq_false_iff_ne.1 hl0,hname,d,hd,hdk,rfl⟩,fun _ h=>absurd h hpa.1,fun h=>(by cases h)⟩,(Ev.now 1 fun m=>?_).mono (by omega),(Ev.now 3 fun m=>?_).mono (by omega)⟩
    ·rw [g1,hlast];rfl
    ·rw [g2,hlast];rfl
   | false =>
    rw [hlast] at g1 g2
    simp only [cond_false] at g1 g2
    by_cases hk2:kindOf (gd tInode v.2.1 i2)=2
    ·obtain ⟨r,r1,r2,r3⟩:=ih (lookN (nmsOf (gd tInode v.2.1 d)) (gd Ty.str L a)) k L (a+1) (cnt-1) (by omega) hk (by omega) (by omega) hrest ⟨i2,hi2,hk2⟩
     refine⟨r,r1,(r2.jump (f:=fun m=>impl_Vol_walk_L3 m v fo a cnt at_ (k:Int) c z L) 1 fun m=>?_).mono (by omega),(r3.jump (f:=fun m=>(spec_l6Walk_L m).k4 fo a cnt at_ (k:Int) v c z L) 3 fun m=>?_).mono (by omega)⟩
     ·rw [g1,bne_f (show(gd tInode v.2.1 i2).2.1=2 from hk2)];rfl
     ·rw [g2,bne_f (show(gd tInode v.2.1 i2).2.1=2 from hk2)];rfl
    ·refine⟨((0:Int),([]:Txt),(0:Int),(20:Int),()),spot_code _ (by decide) 0 0 (.inr trivial),(Ev.now 1 fun m=>?_).mono (by omega),(Ev.now 3 fun m=>?_).mono (by omega)⟩
     ·rw [g1,bne_t (show ¬(gd tInode v.2.1 i2).2.1=2 from hk2)];rfl
     ·rw [g2,bne_t (show ¬(gd tInode v.2.1 i2).2.1=2 from hk2)];rfl
  cases hk3:(gd tInode v.2.1 i2).2.1==3 with
  | true =>
   cases hlast:((cnt-1:Nat):Int)==0 with
   | false=>exact hfol hk3 (by rw [hlast];rfl)
   | true =>
    cases fo with
    | true=>exact hfol hk3 (by rw [hlast];rfl)
    | false =>
     refine hno (fun m=>?_) (fun m=>?_)
     ·rw [impl_Vol_walk_L3,impl_Vol_walk_b3]
      simp -index only [hpos,hix,hrg,hino,gd_one,hmay,hm,h1,h2,h8,hfind,hl0,hino2,hk3,hlast,cond_true,cond_false,obs,Bool.not_true,Bool.not_false,List.isEmpty_cons,Nat.add_zero]
     ·rw [wS4];unfold spec_l6Walk_b4
      simp only [hpos,hix,hrg,hAt,hixd,hmayS,hm,h1,h2,h8,hfindS,hl0,dup_eq,hAt2,hixd2,hlast,cond_true,cond_false,obs,Bool.not_true,Bool.not_false,Nat.add_zero]
      rw [wS21];unfold spec_l6Walk_b21
      simp only [hk3,cond_true,cond_false,Bool.not_true,Bool.not_false]
      rw [wS30];unfold spec_l6Walk_b30;rfl
  | false =>
   refine hno (fun m=>?_) (fun m=>?_)
   ·rw [impl_Vol_walk_L3,impl_Vol_walk_b3]
    simp -index only [hpos,hix,hrg,hino,gd_one,hmay,hm,h1,h2,h8,hfind,hl0,hino2,hk3,cond_true,cond_false,obs,Bool.not_true,Bool.not_false,List.isEmpty_cons,Nat.add_zero]
   ·rw [wS4];unfold spec_l6Walk_b4
    simp only [hpos,hix,hrg,hAt,hixd,hmayS,hm,h1,h2,h8,hfindS,hl0,dup_eq,hAt2,hixd2,cond_true,cond_false,obs,Bool.not_true,Bool.not_false,Nat.add_zero]
    rw [wS21];unfold spec_l6Walk_b21
    simp only [hk3,cond_true,cond_false]
    rw [wS30];unfold spec_l6Walk_b30;rfl
theorem walk_eq(v:tVol.D)(c:tCred.D)(path:Txt)(fo:Bool)(hw:Wk v.2.1)(hc:credOk c=true)(hp:pathOk path=true) :
  ∃r,SpotOk v.2.1 r∧impl_Vol_walk (v,c,path,fo,())=some (r,())∧spec_l6Walk (v,c,path,fo,())=some (r,()):=by
 unfold pathOk at hp
 rw [Bool.and_eq_true] at hp
 have htp:=target_pos hp.1
 have hcl:=cut_len path
 obtain ⟨r,r1,r2,r3⟩:=walk_both v c hw hc fo ((0:Int),([]:Txt),(0:Int),(0:Int),()) 900 1 0 (cut path) 0 (cut path).length (by omega) (by omega) (by omega) (by omega) (by rw [part_all];exact cut_ok hp.1) hw.root
 refine⟨r,r1,?_,?_⟩
 ·show impl_Vol_walk_s (impl_Vol_walk_L3 BIG) v c path fo=_
  unfold impl_Vol_walk_s
  rw [pieces_eq path (by omega)]
  exact ev_big r2 (by omega)
 ·show spec_l6Walk_s (spec_l6Walk_L BIG) v c path fo=_
  unfold spec_l6Walk_s
  rw [spec_Cut_eq path (by omega)]
  exact ev_big r3 (by omega)
end Go.LM.Vg
