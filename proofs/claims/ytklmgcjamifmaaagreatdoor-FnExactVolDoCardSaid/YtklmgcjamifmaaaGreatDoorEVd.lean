/- Calls on volumes: both sides come to the same. Conditions: each theorem's own hypotheses. -/
import Derived.Test.YtklmgcjamifmaaaGreatDoorEVc
set_option linter.unusedVariables false
set_option linter.unusedSimpArgs false
namespace Go.LM.Vg
theorem BIG_gt'{n:Nat}(h:n≤68719476736):n+1<BIG:=by unfold BIG;omega
theorem dropcD{α : Type}{l:List α}{k:Nat}(h:k<l.length):l.drop k=l[k] :: l.drop (k+1):=List.drop_eq_getElem_cons h
def hitD(y:tDirent.D)(id:Txt):Bool:=eqS y.1 id
theorem cloD_eq(y:tDirent.D)(id:Txt):impl_doer_unname_1 (y,id,())=some (hitD y id,()):=rfl
def fidxD(id:Txt):List tDirent.D→Nat→Int
 | [],_ => -1
 | y :: l,k=>cond (hitD y id) (k:Int) (fidxD id l (k+1))
theorem idxD_loop(ys:List tDirent.D)(id:Txt)(hn:ys.length≤68719476736):∀(r k m:Nat),k+r=ys.length→r<m →
  slices_IndexFunc_impl_Dirent_impl_Dirent_impl_doer_unname_1_L2 m ys id (ys.length:Int) (k:Int)=some (fidxD id (ys.drop k) k,()):=by
 intro r
 induction r with
 | zero =>
  intro k m hk hm
  obtain ⟨m,rfl⟩:∃q,m=q+1:=⟨m-1,by omega⟩
  simp only [slices_IndexFunc_impl_Dirent_impl_Dirent_impl_doer_unname_1_L2,slices_IndexFunc_impl_Dirent_impl_Dirent_impl_doer_unname_1_b2]
  rw [lt_f (by omega),List.drop_of_length_le (by omega)];rfl
 | succ r ih =>
  intro k m hk hm
  obtain ⟨m,rfl⟩:∃q,m=q+1:=⟨m-1,by omega⟩
  have hkl:k<ys.length:=by omega
  simp only [slices_IndexFunc_impl_Dirent_impl_Dirent_impl_doer_unname_1_L2,slices_IndexFunc_impl_Dirent_impl_Dirent_impl_doer_unname_1_b2]
  rw [lt_t hkl,ix_nat hkl]
  simp only [cond_true,obs]
  rw [cloD_eq,gd_eq_get hkl,dropcD hkl]
  simp only [obs,fidxD]
  cases hitD ys[k] id
  ·simp only [cond_false]
   rw [inc_i _ (by omega)]
   exact ih (k+1) m (by omega) (by omega)
  ·rfl
theorem fidxD_spec(id:Txt):∀(l:List tDirent.D) (k:Nat),(fidxD id l k = -1∧l.filter (fun y => !hitD y id)=l)∨∃j,j<l.length∧fidxD id l k=((k+j:Nat):Int)∧(l.filter (fun y => !hitD y id))=l.take j++(l.drop (j+1)).filter (fun y => !hitD y id)
 | [],_=>.inl ⟨rfl,rfl⟩
 | y :: l,k=>by
  rw [List.filter_cons]
  unfold fidxD
  cases h:hitD y id
  ·rcases fidxD_spec id l (k+1) with⟨h1,h2⟩ | ⟨j,h1,h2,h3⟩
   ·exact .inl ⟨by simp only [cond_false];exact h1,by simp [h2]⟩
   ·exact .inr ⟨j+1,by simpa using h1,by simp only [cond_false];rw [h2];congr 1;omega,by simp [h3]⟩
  ·exact .inr ⟨0,by simp,by simp,by simp⟩
theorem delD_loop(ys:List tDirent.D)(id:Txt)(hn:ys.length≤68719476736):∀(r j i m:Nat) (xs:List tDirent.D),j+r=ys.length→i≤j→xs.length=ys.length→xs.drop j=ys.drop j→r<m →
  slices_DeleteFunc_impl_Dirent_impl_Dirent_impl_doer_unname_1_L5 m id (i:Int) (j:Int) xs=some (xs.take i++(ys.drop j).filter (fun y => !hitD y id),()):=by
 intro r
 induction r with
 | zero =>
  intro j i m xs hj hij hl hd hm
  obtain ⟨m,rfl⟩:∃q,m=q+1:=⟨m-1,by omega⟩
  simp only [slices_DeleteFunc_impl_Dirent_impl_Dirent_impl_doer_unname_1_L5,slices_DeleteFunc_impl_Dirent_impl_Dirent_impl_doer_unname_1_b5]
  rw [lt_f (by omega),rng_nat (by omega) (Nat.le_refl _)]
  simp only [cond_false,obs,slices_DeleteFunc_impl_Dirent_impl_Dirent_impl_doer_unname_1_b5_v5,Nat.zero_add]
  generalize ((([]:List UInt8),0,()):tDirent.D)=z
  have hlen:(xs.take i++List.replicate (xs.length-i) z++xs.drop (i +(xs.length-i))).length=xs.length:=by
   simp;omega
  rw [show(0:Int)=((0:Nat):Int) from rfl,rng_nat (Nat.zero_le _) (by rw [hlen];omega)]
  simp only [obs,Nat.sub_zero,Nat.zero_add]
  rw [List.drop_of_length_le (l:=ys) (by omega),List.filter_nil,List.append_nil]
  congr 2
  unfold part
  rw [List.drop_zero,List.append_assoc,List.take_append_of_le_length (by simp;omega),List.take_take]
  simp
 | succ r ih =>
  intro j i m xs hj hij hl hd hm
  obtain ⟨m,rfl⟩:∃q,m=q+1:=⟨m-1,by omega⟩
  have hjl:j<xs.length:=by omega
  have hjy:j<ys.length:=by omega
  have he:xs[j]=ys[j]∧xs.drop (j+1)=ys.drop (j+1):=by
   rw [dropcD hjl,dropcD hjy] at hd
   exact List.cons.inj hd
  simp only [slices_DeleteFunc_impl_Dirent_impl_Dirent_impl_doer_unname_1_L5,slices_DeleteFunc_impl_Dirent_impl_Dirent_impl_doer_unname_1_b5]
  rw [lt_t hjl,ix_nat hjl]
  simp only [cond_true,obs,Nat.zero_add]
  rw [cloD_eq,gd_eq_get hjl,he.1,dropcD hjy,List.filter_cons]
  simp only [obs]
  cases hh:hitD ys[j] id
  ·simp only [Bool.not_false,cond_true,if_true]
   rw [ix_nat (show i<xs.length by omega)]
   simp only [obs,Nat.zero_add]
   rw [inc_i _ (by omega),inc_i _ (by omega),ih (j+1) (i+1) m (xs.set i ys[j]) (by omega) (by omega) (by simpa using hl) (by rw [List.drop_set_of_lt (by omega)];exact he.2) (by omega)]
   congr 2
   rw [List.take_add_one,List.take_set_of_le (Nat.le_refl _),List.getElem?_set_self (by omega)]
   simp
  ·simp only [Bool.not_true,cond_false,Bool.false_eq_true,if_false]
   rw [inc_i _ (by omega)]
   exact ih (j+1) i m xs (by omega) (by omega) hl he.2 (by omega)
theorem delD_eq(ys:List tDirent.D)(id:Txt)(hn:room ys.length=true):slices_DeleteFunc_impl_Dirent_impl_Dirent_impl_doer_unname_1 (ys,id,())=some (ys.filter (fun y => !hitD y id),()):=by
 have hn:ys.length≤68719476736:=Nat.le_of_ble_eq_true hn
 show slices_DeleteFunc_impl_Dirent_impl_Dirent_impl_doer_unname_1_s _ ys id=_
 unfold slices_DeleteFunc_impl_Dirent_impl_Dirent_impl_doer_unname_1_s
 have hi:slices_IndexFunc_impl_Dirent_impl_Dirent_impl_doer_unname_1 (ys,id,())=some (fidxD id ys 0,()):=by
  have:=idxD_loop ys id hn ys.length 0 BIG (by omega) (by have:=BIG_gt' hn;omega)
  rw [List.drop_zero] at this
  exact this
 rw [hi]
 simp only [obs]
 rcases fidxD_spec id ys 0 with⟨h1,h2⟩ | ⟨j,h1,h2,h3⟩
 ·rw [h1,h2];rfl
 ·rw [h2,h3,Nat.zero_add,show((j:Int) == -1)=false from by rw [beq_eq_false_iff_ne];omega]
  simp only [cond_false]
  rw [inc_i _ (by omega)]
  exact delD_loop ys id hn (ys.length-(j+1)) (j+1) j BIG ys (by omega) (by omega) rfl rfl (by have:=BIG_gt' hn;omega)
theorem spot_eq(v:tVol.D)(c:tCred.D)(x:tCall.D)(path:Txt)(fo:Bool)(hw:Wk v.2.1)(hc:credOk c=true)(hp:path.length≤1048576) :
  ∃r,SpotOk v.2.1 r∧impl_doer_spot ((v,c,x,()),path,fo,())=some (r,())∧spec_l7There (v,c,path,fo,())=some (r,()):=by
 cases hk:pathOk path with
 | false =>
  refine⟨((0:Int),([]:Txt),(0:Int),(22:Int),()),spot_code _ (by decide) 0 0 (.inr trivial),?_,?_⟩
  ·show impl_doer_spot_s (v,c,x,()) path fo=_
   unfold impl_doer_spot_s
   rw [impl_PathOk_eq _ (by omega),hk];rfl
  ·show spec_l7There_s v c path fo=_
   unfold spec_l7There_s
   rw [spec_PathOk_eq,hk];rfl
 | true =>
  obtain ⟨r,r1,r2,r3⟩:=walk_eq v c path fo hw hc hk
  refine⟨r,r1,?_,?_⟩
  ·show impl_doer_spot_s (v,c,x,()) path fo=_
   unfold impl_doer_spot_s
   rw [impl_PathOk_eq _ (by omega),hk]
   simp only [obs,Bool.not_true,cond_false]
   rw [r2];rfl
  ·show spec_l7There_s v c path fo=_
   unfold spec_l7There_s
   rw [spec_PathOk_eq,hk]
   simp only [obs,Bool.not_true,cond_false]
   rw [r3];rfl
theorem nil_eqS{s:Txt} : eqS s []=true↔s=[]:=by unfold eqS;simp
theorem new_eq(v:tVol.D)(c:tCred.D)(x:tCall.D)(path:Txt)(hw:Wk v.2.1)(hc:credOk c=true)(hp:path.length≤1048576) :
  ∃r r' code,impl_doer_isNew ((v,c,x,()),path,())=some (r,code,())∧spec_l7New (v,c,path,())=some (r',code,())∧(code=0→r'=r∧SpotOk v.2.1 r∧codeS r=2∧nameOf r≠[]):=by
 cases hk:pathOk path with
 | false =>
  refine⟨((0:Int),([]:Txt),(0:Int),(22:Int),()),((0:Int),([]:Txt),(0:Int),(0:Int),()),22,?_,?_,fun h=>by cases h⟩
  ·show impl_doer_isNew_s (v,c,x,()) path=_
   unfold impl_doer_isNew_s
   have:impl_doer_spot ((v,c,x,()),path,false,())=some (((0:Int),([]:Txt),(0:Int),(22:Int),()),()):=by
    show impl_doer_spot_s (v,c,x,()) path false=_
    unfold impl_doer_spot_s
    rw [impl_PathOk_eq _ (by omega),hk];rfl
   rw [this];rfl
  ·show spec_l7New_s v c path=_
   unfold spec_l7New_s
   rw [spec_PathOk_eq,hk];rfl
 | true =>
  obtain ⟨r,r1,r2,r3⟩:=walk_eq v c path false hw hc hk
  have hI:impl_doer_isNew ((v,c,x,()),path,())=cond (codeS r==2) (cond (!(eqS (nameOf r) [])) (some (r,0,())) (cond (codeS r==0) (some (r,17,())) (some (r,codeS r,())))) (cond (codeS r==0) (some (r,17,())) (some (r,codeS r,()))):=by
   show impl_doer_isNew_s (v,c,x,()) path=_
   unfold impl_doer_isNew_s
   have:impl_doer_spot ((v,c,x,()),path,false,())=some (r,()):=by
    show impl_doer_spot_s (v,c,x,()) path false=_
    unfold impl_doer_spot_s
    rw [impl_PathOk_eq _ (by omega),hk]
    simp only [obs,Bool.not_true,cond_false]
    rw [r2];rfl
   rw [this];rfl
  have hS:spec_l7New (v,c,path,())=cond (codeS r==0) (some (r,17,())) (cond (codeS r==2) (cond (!(eqS (nameOf r) [])) (some (r,0,())) (some (r,codeS r,()))) (some (r,codeS r,()))):=by
   show spec_l7New_s v c path=_
   unfold spec_l7New_s
   rw [spec_PathOk_eq,hk]
   simp only [obs,Bool.not_true,cond_false]
   rw [r3];rfl
  rw [hI,hS]
  by_cases h0:codeS r=0
  ·rw [beq_t h0,beq_f (show codeS r≠2 by omega)]
   exact⟨r,r,17,rfl,rfl,fun h=>by cases h⟩
  ·rw [beq_f h0]
   by_cases h2:codeS r=2
   ·rw [beq_t h2]
    cases hn:eqS (nameOf r) [] with
    | true=>exact⟨r,r,codeS r,rfl,rfl,fun h=>absurd h h0⟩
    | false=>exact⟨r,r,0,rfl,rfl,fun _=>⟨rfl,r1,h2,fun h=>by rw [nil_eqS.2 h] at hn;cases hn⟩⟩
   ·rw [beq_f h2]
    exact⟨r,r,codeS r,rfl,rfl,fun h=>absurd h h0⟩
def setN(x:Ino)(N:List tDirent.D):Ino:=(x.1,x.2.1,x.2.2.1,x.2.2.2.1,x.2.2.2.2.1,x.2.2.2.2.2.1,N,x.2.2.2.2.2.2.2.1,x.2.2.2.2.2.2.2.2.1,())
def ltP(s:Txt)(d:tDirent.D):Bool:=ltS d.1 s
def ins(N:List tDirent.D)(s:Txt)(id:Int):List tDirent.D:=N.takeWhile (ltP s)++[(s,id,())]++N.dropWhile (ltP s)
theorem tw_take{α : Type}(p : α → Bool)(l:List α):l.take (l.takeWhile p).length=l.takeWhile p:=by
 have:=List.take_left' (l₁:=l.takeWhile p) (l₂:=l.dropWhile p) rfl
 rwa [List.takeWhile_append_dropWhile] at this
theorem tw_drop{α : Type}(p : α → Bool)(l:List α):l.drop (l.takeWhile p).length=l.dropWhile p:=by
 have:=List.drop_left' (l₁:=l.takeWhile p) (l₂:=l.dropWhile p) rfl
 rwa [List.takeWhile_append_dropWhile] at this
theorem tw_mem{α : Type}{p : α → Bool}{x : α} : ∀ {l:List α},x∈l.takeWhile p→p x=true
 | [],h=>by simp at h
 | y :: l,h=>by
  rw [List.takeWhile_cons] at h
  cases hy:p y
  ·rw [hy] at h;simp at h
  ·rw [hy] at h
   simp only [if_true,List.mem_cons] at h
   rcases h with rfl | h
   ·exact hy
   ·exact tw_mem h
theorem dw_head{α : Type}{p : α → Bool}{x : α}{r:List α} : ∀ {l:List α},l.dropWhile p=x :: r→p x=false
 | [],h=>by simp at h
 | y :: l,h=>by
  rw [List.dropWhile_cons] at h
  cases hy:p y
  ·rw [hy] at h
   simp only [Bool.false_eq_true,if_false] at h
   injection h with h1 h2
   rw [← h1];exact hy
  ·rw [hy] at h
   simp only [if_true] at h
   exact dw_head h
theorem tw_le{α : Type}(p : α → Bool)(l:List α):(l.takeWhile p).length≤l.length:=by
 have:=congrArg List.length (List.takeWhile_append_dropWhile (p:=p) (l:=l))
 rw [List.length_append] at this;omega
theorem ins_len(N:List tDirent.D)(s:Txt)(id:Int):(ins N s id).length=N.length+1:=by
 have:=congrArg List.length (List.takeWhile_append_dropWhile (p:=ltP s) (l:=N))
 rw [List.length_append] at this
 unfold ins
 simp only [List.length_append,List.length_cons,List.length_nil];omega
theorem tw_get{N:List tDirent.D}{s:Txt} : ∀ {j:Nat},j<(N.takeWhile (ltP s)).length→ltS (gd tDirent N j).1 s=true:=by
 intro j hj
 have hjN:j<N.length:=Nat.lt_of_lt_of_le hj (tw_le _ _)
 have h1:(N.takeWhile (ltP s))[j]∈N.takeWhile (ltP s):=List.getElem_mem hj
 have h2:=tw_mem h1
 have e:(N.takeWhile (ltP s))[j]=gd tDirent N j:=by
  rw [gd_eq hjN]
  have:=List.takeWhile_append_dropWhile (p:=ltP s) (l:=N)
  have h3:(N.takeWhile (ltP s)++N.dropWhile (ltP s))[j]?=N[j]?:=by rw [this]
  rw [List.getElem?_append_left hj,List.getElem?_eq_getElem hj,List.getElem?_eq_getElem hjN] at h3
  exact osj h3
 rw [e] at h2
 exact h2
theorem tw_end{N:List tDirent.D}{s:Txt}(h:(N.takeWhile (ltP s)).length<N.length):ltS (gd tDirent N (N.takeWhile (ltP s)).length).1 s=false:=by
 have h1:=tw_drop (ltP s) N
 have h2:=dropcD h
 rw [h1] at h2
 rw [gd_eq h]
 exact dw_head (p:=ltP s) h2
theorem name_eq(v:tVol.D)(c:tCred.D)(x:tCall.D)(dir:Int)(s:Txt)(id:Int)(hl:v.2.1.length≤1048576){i:Nat}(h:iat v.2.1 dir=some i)(hn:(nmsOf (gd tInode v.2.1 i)).length≤1048576) :
  impl_doer_name ((v,c,x,()),dir,s,id,())=some (((v.1,v.2.1.set i (setN (gd tInode v.2.1 i) (ins (nmsOf (gd tInode v.2.1 i)) s id)),()),c,x,()),()):=by
 show impl_doer_name_s (impl_doer_name_L BIG) (v,c,x,()) dir s id=_
 unfold impl_doer_name_s
 rw [impl_inode_w_eq v dir hl,h]
 simp only [obs,optI]
 obtain ⟨hi,hid⟩:=iat_lt h
 generalize hN:nmsOf (gd tInode v.2.1 i)=N at hn
 have hat:=tw_le (ltP s) N
 have hend:∀m,(impl_doer_name_L (m+1)).k4 s id (i:Int) ((N.takeWhile (ltP s)).length:Int) (v,c,x,())=some (((v.1,v.2.1.set i (setN (gd tInode v.2.1 i) (ins N s id)),()),c,x,()),()):=by
  intro m
  show impl_doer_name_b4 (impl_doer_name_L m) s id (i:Int) ((N.takeWhile (ltP s)).length:Int) (v,c,x,())=_
  unfold impl_doer_name_b4
  rw [ix_nat hi]
  simp only [obs,Nat.beq_refl,cond_true]
  show Option.bind (insF (nmsOf (gd tInode v.2.1 i)) ((N.takeWhile (ltP s)).length:Int) [(s,id,())]) _=_
  rw [hN]
  unfold insF
  rw [if_pos ⟨Int.natCast_nonneg _,Int.ofNat_le.2 hat,rfl,by omega⟩]
  simp only [obs,Int.toNat_natCast]
  rw [tw_take,tw_drop]
  rfl
 have hgo:=stepsEv 1 (fun m j=>(impl_doer_name_L m).k2 s id (i:Int) (j:Int) (v,c,x,())) (some (((v.1,v.2.1.set i (setN (gd tInode v.2.1 i) (ins N s id)),()),c,x,()),())) (N.takeWhile (ltP s)).length 2 (fun j hj B y he=>he.step fun m=>by
  show impl_doer_name_b2 (impl_doer_name_L m) s id (i:Int) (j:Int) (v,c,x,())=_
  unfold impl_doer_name_b2
  rw [ix_nat hi]
  simp only [obs]
  show cond (decide ((j:Int)<((nmsOf (gd tInode v.2.1 i)).length:Int))) ((ix (nmsOf (gd tInode v.2.1 i)).length (j:Int)).bind fun v3=>cond (ltS (gd tDirent (nmsOf (gd tInode v.2.1 i)) v3).1 s) _ _) _=_
  rw [hN,lt_t (by omega),ix_nat (by omega)]
  simp only [cond_true,obs]
  rw [tw_get hj,inc_i j (by omega)];rfl) (Ev.now 2 fun m=>by
  show impl_doer_name_b2 (impl_doer_name_L (m+1)) s id (i:Int) ((N.takeWhile (ltP s)).length:Int) (v,c,x,())=_
  unfold impl_doer_name_b2
  rw [ix_nat hi]
  simp only [obs]
  show cond (decide (((N.takeWhile (ltP s)).length:Int)<((nmsOf (gd tInode v.2.1 i)).length:Int))) ((ix (nmsOf (gd tInode v.2.1 i)).length ((N.takeWhile (ltP s)).length:Int)).bind fun v3=>cond (ltS (gd tDirent (nmsOf (gd tInode v.2.1 i)) v3).1 s) _ _) _=_
  rw [hN]
  rcases Nat.lt_or_ge (N.takeWhile (ltP s)).length N.length with h1 | h1
  ·rw [lt_t h1,ix_nat h1]
   simp only [cond_true,obs]
   rw [tw_end h1]
   exact hend m
  ·rw [lt_f h1]
   exact hend m)
 exact ev_big hgo (by omega)
def unN(N:List tDirent.D)(s:Txt):List tDirent.D:=N.filter fun d => !eqS d.1 s
def goN(l:List Ino)(id:Int):List Ino:=cond (decide (namedN l id=0)) (l.filter fun y => !(y.1==id)) l
theorem nmsN_set{l:List Ino}{i:Nat}{y:Ino}(hi:i<l.length):nmsN (l.set i y) +(nmsOf (gd tInode l i)).length=nmsN l +(nmsOf y).length:=by
 unfold nmsN
 induction l generalizing i with
 | nil=>simp at hi
 | cons z l ih =>
  cases i with
  | zero=>simp only [List.set_cons_zero,List.map_cons,List.sum_cons];show _ +(nmsOf z).length=_;omega
  | succ i =>
   have:=ih (i:=i) (by simpa using hi)
   simp only [List.set_cons_succ,List.map_cons,List.sum_cons]
   show _ +(nmsOf (gd tInode l i)).length=_
   omega
theorem nms_setN(x:Ino)(N:List tDirent.D):nmsOf (setN x N)=N:=rfl
theorem un_len(N:List tDirent.D)(s:Txt):(unN N s).length≤N.length:=List.length_filter_le _ _
theorem unname_eq(v:tVol.D)(c:tCred.D)(x:tCall.D)(dir:Int)(s:Txt)(goes:Bool)(hl:v.2.1.length≤1048576)(hm:nmsN v.2.1≤1048576){i:Nat}(h:iat v.2.1 dir=some i) :
  impl_doer_unname ((v,c,x,()),dir,s,goes,())=some (((v.1,cond goes (goN (v.2.1.set i (setN (gd tInode v.2.1 i) (unN (nmsOf (gd tInode v.2.1 i)) s))) (lookN (nmsOf (gd tInode v.2.1 i)) s)) (v.2.1.set i (setN (gd tInode v.2.1 i) (unN (nmsOf (gd tInode v.2.1 i)) s))),()),c,x,()),()):=by
 show impl_doer_unname_s (v,c,x,()) dir s goes=_
 unfold impl_doer_unname_s
 rw [impl_inode_w_eq v dir hl,h]
 simp only [obs,optI]
 obtain ⟨hi,hid⟩:=iat_lt h
 have hn:=Nat.le_trans (nms_get hi) hm
 rw [ix_nat hi]
 simp only [obs,Nat.beq_refl,cond_true]
 rw [impl_find_eq _ _ hn]
 simp only [obs]
 show Option.bind (slices_DeleteFunc_impl_Dirent_impl_Dirent_impl_doer_unname_1 (nmsOf (gd tInode v.2.1 i),s,())) _=_
 rw [delD_eq _ _ (room_t (by omega))]
 simp only [obs]
 show impl_doer_unname_s_v7 goes ((i:Int),v,()) (lookN (nmsOf (gd tInode v.2.1 i)) s,()) (v,c,x,()) (v.2.1.set i (setN (gd tInode v.2.1 i) (unN (nmsOf (gd tInode v.2.1 i)) s)))=_
 have hsl:(v.2.1.set i (setN (gd tInode v.2.1 i) (unN (nmsOf (gd tInode v.2.1 i)) s))).length≤1048576:=by rw [List.length_set];exact hl
 have hsm:nmsN (v.2.1.set i (setN (gd tInode v.2.1 i) (unN (nmsOf (gd tInode v.2.1 i)) s)))≤1048576:=by
  have:=nmsN_set (l:=v.2.1) (y:=setN (gd tInode v.2.1 i) (unN (nmsOf (gd tInode v.2.1 i)) s)) hi
  rw [nms_setN] at this
  have:=un_len (nmsOf (gd tInode v.2.1 i)) s
  omega
 generalize v.2.1.set i (setN (gd tInode v.2.1 i) (unN (nmsOf (gd tInode v.2.1 i)) s))=l at hsl hsm
 generalize lookN (nmsOf (gd tInode v.2.1 i)) s=id
 unfold impl_doer_unname_s_v7
 cases goes
 ·rfl
 ·simp only [cond_true]
  show Option.bind (impl_Vol_named (((v.1,l,()):tVol.D),id,())) _=_
  rw [impl_named_eq (v.1,l,()) id hsl hsm]
  simp only [obs]
  unfold goN
  by_cases h0:namedN l id=0
  ·rw [show(((namedN l id:Nat):Int)==0)=true by rw [h0];rfl,decide_eq_true h0]
   simp only [cond_true]
   show Option.bind (cond (room l.length) _ none) _=_
   rw [room_t (by omega)];rfl
  ·rw [show(((namedN l id:Nat):Int)==0)=false by rw [beq_eq_false_iff_ne];omega,decide_eq_false h0];rfl
theorem spec_With_set(v:tVol.D)(n:Ino)(hl:v.2.1.length≤1048576){i:Nat}(h:iat v.2.1 n.1=some i):spec_l7With (v,n,())=some ((v.1,v.2.1.set i n,()),()):=by
 show spec_l7With_s v n=_
 unfold spec_l7With_s
 rw [spec_At_eq v _ hl,h]
 simp only [obs]
 rw [show decide (optI (some i)<0)=false from optI_neg]
 simp only [cond_false,optI]
 rw [ix_nat (iat_lt h).1]
 simp only [obs,Nat.zero_add]
theorem spec_With_new(v:tVol.D)(n:Ino)(hl:v.2.1.length≤1048576)(h:iat v.2.1 n.1=none):spec_l7With (v,n,())=some ((v.1,v.2.1++[n],()),()):=by
 show spec_l7With_s v n=_
 unfold spec_l7With_s
 rw [spec_At_eq v _ hl,h]
 simp only [obs,optI_neg,Option.isNone_none,cond_true]
 rw [room_t (by simp;omega)];rfl
theorem spec_Add_eq(v:tVol.D)(dir:Int)(s:Txt)(id:Int)(hl:v.2.1.length≤1048576){i:Nat}(h:iat v.2.1 dir=some i)(hn:(nmsOf (gd tInode v.2.1 i)).length≤1048576)(hs:∀d,d∈nmsOf (gd tInode v.2.1 i)→d.1≠s) :
  spec_l7Add (v,dir,s,id,())=some ((v.1,v.2.1.set i (setN (gd tInode v.2.1 i) (ins (nmsOf (gd tInode v.2.1 i)) s id)),()),()):=by
 show spec_l7Add_s (spec_l7Add_L BIG) v dir s id=_
 unfold spec_l7Add_s
 rw [spec_Node_eq v dir hl h]
 simp only [obs]
 obtain ⟨hi,hid⟩:=iat_lt h
 generalize hN:nmsOf (gd tInode v.2.1 i)=N at hn hs
 have hat:=tw_le (ltP s) N
 have hw:iat v.2.1 (setN (gd tInode v.2.1 i) (ins N s id)).1=some i:=by rw [show(setN (gd tInode v.2.1 i) (ins N s id)).1=dir from hid];exact h
 have hput:∀m,(spec_l7Add_L (m+1)).k13 v (0,([]:List tInode.D),()) (gd tInode v.2.1 i) (ins N s id)=some ((v.1,v.2.1.set i (setN (gd tInode v.2.1 i) (ins N s id)),()),()):=by
  intro m
  show spec_l7Add_b13 (spec_l7Add_L m) v (0,([]:List tInode.D),()) (gd tInode v.2.1 i) (ins N s id)=_
  unfold spec_l7Add_b13
  show Option.bind (spec_l7With (v,setN (gd tInode v.2.1 i) (ins N s id),())) _=_
  rw [spec_With_set v _ hl hw];rfl
 have hbeh:∀(r j:Nat) (acc:List tDirent.D),j+r=N.length→acc++N.drop j=ins N s id→acc.length≤j+1→Ev (fun m=>(spec_l7Add_L m).k5 s id true (j:Int) v (0,([]:List tInode.D),()) (gd tInode v.2.1 i) acc) (2*r+2) (some ((v.1,v.2.1.set i (setN (gd tInode v.2.1 i) (ins N s id)),()),())):=by
  intro r
  induction r with
  | zero =>
   intro j acc hj he ha
   refine Ev.now 2 fun m=>?_
   show spec_l7Add_b5 (spec_l7Add_L (m+1)) s id true (j:Int) v (0,([]:List tInode.D),()) (gd tInode v.2.1 i) acc=_
   unfold spec_l7Add_b5
   show cond (decide ((j:Int)<((nmsOf (gd tInode v.2.1 i)).length:Int))) _ _=_
   rw [hN,lt_f (by omega)]
   rw [List.drop_of_length_le (by omega),List.append_nil] at he
   rw [he]
   exact hput m
  | succ r ih =>
   intro j acc hj he ha
   have hjl:j<N.length:=by omega
   have:=ih (j+1) (acc++[gd tDirent N j]) (by omega) (by rw [List.append_assoc,List.singleton_append,← drop_cons (t:=tDirent) hjl];exact he) (by simp;omega)
   refine(this.jump (f:=fun m=>(spec_l7Add_L m).k5 s id true (j:Int) v (0,([]:List tInode.D),()) (gd tInode v.2.1 i) acc) 2 fun m=>?_).mono (by omega)
   show spec_l7Add_b5 (spec_l7Add_L (m+1)) s id true (j:Int) v (0,([]:List tInode.D),()) (gd tInode v.2.1 i) acc=_
   unfold spec_l7Add_b5
   show cond (decide ((j:Int)<((nmsOf (gd tInode v.2.1 i)).length:Int))) _ _=_
   rw [hN,lt_t hjl]
   simp only [cond_true,Bool.not_true,cond_false]
   show spec_l7Add_b10 (spec_l7Add_L m) s id true (j:Int) v (0,([]:List tInode.D),()) (gd tInode v.2.1 i) acc=_
   unfold spec_l7Add_b10
   show Option.bind (ix (nmsOf (gd tInode v.2.1 i)).length (j:Int)) (fun v1=>cond (room (acc.length+1)) ((spec_l7Add_L m).k5 s id true (w64 ((j:Int)+1)) v (0,([]:List tInode.D),()) (gd tInode v.2.1 i) (acc++[gd tDirent (nmsOf (gd tInode v.2.1 i)) v1])) none)=_
   rw [hN,ix_nat hjl]
   simp only [obs]
   rw [room_t (by omega),inc_i j (by omega)];rfl
 have hgo:=stepsEv 2 (fun m j=>(spec_l7Add_L m).k5 s id false (j:Int) v (0,([]:List tInode.D),()) (gd tInode v.2.1 i) (N.take j)) (some ((v.1,v.2.1.set i (setN (gd tInode v.2.1 i) (ins N s id)),()),())) (N.takeWhile (ltP s)).length (2*N.length+8) (fun j hj B y he=>(he.jump (f:=fun m=>(spec_l7Add_L m).k5 s id false (j:Int) v (0,([]:List tInode.D),()) (gd tInode v.2.1 i) (N.take j)) 2 fun m=>by
  have hjl:j<N.length:=by omega
  show spec_l7Add_b5 (spec_l7Add_L (m+1)) s id false (j:Int) v (0,([]:List tInode.D),()) (gd tInode v.2.1 i) (N.take j)=_
  unfold spec_l7Add_b5
  show cond (decide ((j:Int)<((nmsOf (gd tInode v.2.1 i)).length:Int))) (cond (!false) ((ix (nmsOf (gd tInode v.2.1 i)).length (j:Int)).bind fun v1=>cond (ltS s (gd tDirent (nmsOf (gd tInode v.2.1 i)) v1).1) _ _) _) _=_
  rw [hN,lt_t hjl,ix_nat hjl]
  simp only [cond_true,Bool.not_false,obs]
  rw [lt_asymm' (tw_get hj)]
  simp only [cond_false]
  show spec_l7Add_b10 (spec_l7Add_L m) s id false (j:Int) v (0,([]:List tInode.D),()) (gd tInode v.2.1 i) (N.take j)=_
  unfold spec_l7Add_b10
  show Option.bind (ix (nmsOf (gd tInode v.2.1 i)).length (j:Int)) (fun v1=>cond (room ((N.take j).length+1)) ((spec_l7Add_L m).k5 s id false (w64 ((j:Int)+1)) v (0,([]:List tInode.D),()) (gd tInode v.2.1 i) (N.take j++[gd tDirent (nmsOf (gd tInode v.2.1 i)) v1])) none)=_
  rw [hN,ix_nat hjl]
  simp only [obs]
  rw [room_t (by rw [List.length_take];omega),inc_i j (by omega),gd_eq hjl,← List.take_succ_eq_append_getElem hjl];rfl)) (by
  rcases Nat.lt_or_ge (N.takeWhile (ltP s)).length N.length with h1 | h1
  ·
   generalize hj:(N.takeWhile (ltP s)).length=j at h1 hat
   have hins:N.take j++[(s,id,())]++N.drop j=ins N s id:=by rw [← hj,tw_take,tw_drop];rfl
   have hlt:ltS s (gd tDirent N j).1=true:=by
    have:=tw_end (N:=N) (s:=s) (by omega)
    rw [hj] at this
    rw [lt_turn (hs _ (gd_mem' h1)),this];rfl
   have:=hbeh (N.length-(j+1)) (j+1) (N.take j++[(s,id,())]++[gd tDirent N j]) (by omega) (by rw [List.append_assoc _ [gd tDirent N j],List.singleton_append,← drop_cons (t:=tDirent) h1];exact hins) (by simp;omega)
   refine(this.jump (f:=fun m=>(spec_l7Add_L m).k5 s id false (j:Int) v (0,([]:List tInode.D),()) (gd tInode v.2.1 i) (N.take j)) 2 fun m=>?_).mono (by omega)
   show spec_l7Add_b5 (spec_l7Add_L (m+1)) s id false (j:Int) v (0,([]:List tInode.D),()) (gd tInode v.2.1 i) (N.take j)=_
   unfold spec_l7Add_b5
   show cond (decide ((j:Int)<((nmsOf (gd tInode v.2.1 i)).length:Int))) (cond (!false) ((ix (nmsOf (gd tInode v.2.1 i)).length (j:Int)).bind fun v1=>cond (ltS s (gd tDirent (nmsOf (gd tInode v.2.1 i)) v1).1) _ _) _) _=_
   rw [hN,lt_t h1,ix_nat h1]
   simp only [cond_true,Bool.not_false,obs]
   rw [hlt]
   simp only [cond_true]
   rw [room_t (by simp;omega)]
   simp only [cond_true]
   show spec_l7Add_b10 (spec_l7Add_L m) s id true (j:Int) v (0,([]:List tInode.D),()) (gd tInode v.2.1 i) (N.take j++[(s,id,())])=_
   unfold spec_l7Add_b10
   show Option.bind (ix (nmsOf (gd tInode v.2.1 i)).length (j:Int)) (fun v1=>cond (room ((N.take j++[(s,id,())]).length+1)) ((spec_l7Add_L m).k5 s id true (w64 ((j:Int)+1)) v (0,([]:List tInode.D),()) (gd tInode v.2.1 i) ((N.take j++[(s,id,())])++[gd tDirent (nmsOf (gd tInode v.2.1 i)) v1])) none)=_
   rw [hN,ix_nat h1]
   simp only [obs]
   rw [room_t (by simp;omega),inc_i j (by omega)];rfl
  ·
   have hj:(N.takeWhile (ltP s)).length=N.length:=by omega
   have hins:N++[(s,id,())]=ins N s id:=by
    unfold ins
    rw [← tw_drop,← tw_take,hj,List.take_length,List.drop_length,List.append_nil]
   rw [hj,List.take_length]
   refine(Ev.now 2 fun m=>?_).mono (by omega)
   show spec_l7Add_b5 (spec_l7Add_L (m+1)) s id false (N.length:Int) v (0,([]:List tInode.D),()) (gd tInode v.2.1 i) N=_
   unfold spec_l7Add_b5
   show cond (decide ((N.length:Int)<((nmsOf (gd tInode v.2.1 i)).length:Int))) _ _=_
   rw [hN,lt_f (Nat.le_refl _)]
   simp only [cond_false,Bool.not_false,cond_true]
   rw [room_t (by simp;omega),hins]
   exact hput m)
 exact ev_big hgo (by omega)
theorem gd_set{l:List Ino}{i j:Nat}{y:Ino}(hi:i<l.length):gd tInode (l.set i y) j=if i=j then y else gd tInode l j:=by
 by_cases hj:j<l.length
 ·rw [gd_eq (by rw [List.length_set];exact hj),gd_eq hj,List.getElem_set]
 ·rw [if_neg (by omega)]
  unfold gd
  rw [List.getD_eq_getElem?_getD,List.getD_eq_getElem?_getD,List.getElem?_eq_none (by rw [List.length_set];omega),List.getElem?_eq_none (by omega)]
theorem fnd_congr{n:Nat}{P Q:Nat→Bool}(h:∀i,i<n→P i=Q i):fnd n P=fnd n Q:=by
 cases hq:fnd n Q with
 | none=>exact fnd_none.2 fun i hi=>by rw [h i hi];exact fnd_none.1 hq i hi
 | some k =>
  obtain ⟨h1,h2,h3⟩:=fnd_some.1 hq
  exact fnd_some.2 ⟨h1,by rw [h k h1];exact h2,fun j hj=>by rw [h j (by omega)];exact h3 j hj⟩
theorem iat_set{l:List Ino}{i:Nat}{y:Ino}(hi:i<l.length)(hy:y.1=(gd tInode l i).1)(id:Int):iat (l.set i y) id=iat l id:=by
 unfold iat
 rw [List.length_set]
 refine fnd_congr fun j hj=>?_
 rw [gd_set hi]
 split
 ·rename_i h;rw [hy,h]
 ·rfl
def Nd(l:List Ino):Prop:=l.Pairwise fun a b=>idOf a≠idOf b
theorem dist_iff{l:List Ino} : Dist l↔Nd l:=by
 unfold Nd
 rw [List.pairwise_iff_getElem]
 constructor
 ·intro h i j hi hj hij he
  have h1:=h i hi
  have h2:=h j hj
  rw [gd_eq hi] at h1
  rw [gd_eq hj] at h2
  have:(l[i]).1=(l[j]).1:=he
  rw [this,h2] at h1
  have:=osj h1
  omega
 ·intro h x hx
  unfold iat
  rw [fnd_some]
  refine⟨hx,by simp,fun j hj=>?_⟩
  rw [beq_eq_false_iff_ne,gd_eq hx,gd_eq (i:=j) (by omega)]
  exact h j x (by omega) hx hj
theorem iat_mem{l:List Ino}{id:Int} :(iat l id).isSome=true↔∃x,x∈l∧x.1=id:=by
 constructor
 ·intro h
  obtain ⟨i,hi⟩:=Option.isSome_iff_exists.1 h
  obtain ⟨h1,h2⟩:=iat_lt hi
  exact⟨_,gd_mem' h1,h2⟩
 ·rintro ⟨x,hx,he⟩
  obtain ⟨i,hi,hg⟩:=mem_gd hx
  cases h:iat l id with
  | some k=>rfl
  | none =>
   have:=fnd_none.1 h i hi
   rw [hg,he] at this
   simp at this
theorem iat_app{l:List Ino}{n:Ino}{id:Int}{i:Nat}(h:iat l id=some i):iat (l++[n]) id=some i:=by
 obtain ⟨h1,h2,h3⟩:=fnd_some.1 h
 have hg:∀j,j<l.length→gd tInode (l++[n]) j=gd tInode l j:=fun j hj=>by rw [gd_eq (by simp;omega),gd_eq hj,List.getElem_append_left hj]
 exact fnd_some.2 ⟨by simp;omega,by rw [hg i h1];exact h2,fun j hj=>by rw [hg j (by omega)];exact h3 j hj⟩
theorem gd_app{l:List Ino}{n:Ino}{j:Nat}(hj:j<l.length):gd tInode (l++[n]) j=gd tInode l j:=by rw [gd_eq (by simp;omega),gd_eq hj,List.getElem_append_left hj]
theorem set_app{l:List Ino}{n y:Ino}{i:Nat}(hi:i<l.length):(l++[n]).set i y=l.set i y++[n]:=by rw [List.set_append_left _ _ hi]
theorem named_zero{l:List Ino}{id:Int}(h:namedN l id=0):∀x,x∈l→∀d,d∈nmsOf x→d.2.1≠id:=by
 intro x hx d hd he
 have h1:cntId (nmsOf x) id≤namedN l id:=by
  unfold namedN
  exact le_sum (f:=fun x=>cntId (nmsOf x) id) hx
 have h2:d∈(nmsOf x).filter fun d=>d.2.1==id:=List.mem_filter.2 ⟨hd,by simpa using he⟩
 have h3:0<cntId (nmsOf x) id:=List.length_pos_of_mem h2
 omega
theorem bytes_set{l:List Ino}{i:Nat}{y:Ino}(hi:i<l.length):bytesOf (l.set i y) +(dataOf (gd tInode l i)).length=bytesOf l +(dataOf y).length:=by
 unfold bytesOf
 induction l generalizing i with
 | nil=>simp at hi
 | cons z l ih =>
  cases i with
  | zero=>simp only [List.set_cons_zero,List.map_cons,List.sum_cons];show _ +(dataOf z).length=_;omega
  | succ i =>
   have:=ih (i:=i) (by simpa using hi)
   simp only [List.set_cons_succ,List.map_cons,List.sum_cons]
   show _ +(dataOf (gd tInode l i)).length=_
   omega
theorem sum_filter{α : Type}(f : α → Nat)(p : α → Bool):∀l:List α,((l.filter p).map f).sum≤(l.map f).sum
 | []=>Nat.le_refl _
 | x :: l=>by
  have:=sum_filter f p l
  rw [List.filter_cons]
  split
  ·simp only [List.map_cons,List.sum_cons];omega
  ·simp only [List.map_cons,List.sum_cons];omega
structure St(B:Nat)(l:List Ino):Prop where
 len:l.length≤B
 nms:nmsN l≤B
 bytes:bytesOf l≤B
 dist:Dist l
 exs:Exs l
 bare:∀i,i<l.length→kindOf (gd tInode l i)≠2→maxB (gd tInode l i)=0∧maxI (gd tInode l i)=0∧nmsOf (gd tInode l i)=[]
theorem St.mono{B B':Nat}{l:List Ino}(h:St B l)(hb:B≤B'):St B' l:=⟨Nat.le_trans h.len hb,Nat.le_trans h.nms hb,Nat.le_trans h.bytes hb,h.dist,h.exs,h.bare⟩
theorem VolR.nms{v:tVol.D}(h:VolR v):nmsN v.2.1≤288:=by
 have key:∀l:List Ino,(∀x,x∈l→(nmsOf x).length≤12)→nmsN l≤l.length*12:=by
  intro l
  induction l with
  | nil=>intro _;exact Nat.le_refl _
  | cons x l ih =>
   intro hx
   have h1:=hx x List.mem_cons_self
   have h2:=ih fun y hy=>hx y (List.mem_cons_of_mem _ hy)
   show(nmsOf x).length+nmsN l≤(l.length+1)*12
   omega
 have:=key v.2.1 fun x hx=>by
  obtain ⟨i,hi,he⟩:=mem_gd hx
  have h1:=h.ino i hi
  rw [he] at h1
  by_cases hk:kindOf x=2
  ·exact(h1.dir hk).2.2.2
  ·rw [(h1.plain hk).2.2];simp
 have:=h.len
 omega
theorem VolR.st{v:tVol.D}(h:VolR v):St 400 v.2.1 :=
 ⟨by have:=h.len;omega,by have:=h.nms;omega,h.bytes,h.dist,h.exs,fun i hi hk=>(h.ino i hi).plain hk⟩
theorem exs_mem{l:List Ino} : Exs l↔∀x,x∈l→∀d,d∈nmsOf x→∃y,y∈l∧y.1=d.2.1:=by
 constructor
 ·intro h x hx d hd
  obtain ⟨i,hi,he⟩:=mem_gd hx
  exact iat_mem.1 (h i hi d (by rw [he];exact hd))
 ·intro h i hi d hd
  exact iat_mem.2 (h _ (gd_mem' hi) d hd)
theorem St.set{B k:Nat}{l:List Ino}{i:Nat}{y:Ino}(h:St B l)(hi:i<l.length)(hy:y.1=(gd tInode l i).1)(hex:∀d,d∈nmsOf y→(iat l d.2.1).isSome=true)
  (hb:kindOf y≠2→maxB y=0∧maxI y=0∧nmsOf y=[]) (hn:(nmsOf y).length≤(nmsOf (gd tInode l i)).length+k) (hd:(dataOf y).length≤(dataOf (gd tInode l i)).length+k):St (B+k) (l.set i y):=by
 have h1:=nmsN_set (l:=l) (y:=y) hi
 have h2:=bytes_set (l:=l) (y:=y) hi
 have h3:=h.nms
 have h4:=h.bytes
 have h5:=h.len
 refine⟨by rw [List.length_set];omega,by omega,by omega,fun x hx=>?_,fun j hj d hd=>?_,fun j hj hk=>?_⟩
 ·rw [List.length_set] at hx
  rw [iat_set hi hy,gd_set hi]
  split
  ·rename_i he;subst he;rw [hy];exact h.dist i hx
  ·exact h.dist x hx
 ·rw [List.length_set] at hj
  rw [gd_set hi] at hd
  rw [iat_set hi hy]
  split at hd
  ·exact hex d hd
  ·exact h.exs j hj d hd
 ·rw [List.length_set] at hj
  rw [gd_set hi] at hk ⊢
  split at hk
  ·rename_i he;rw [if_pos he];exact hb hk
  ·rename_i he;rw [if_neg he];exact h.bare j hj hk
theorem nd_filter{l:List Ino}(p:Ino→Bool)(h:Nd l):Nd (l.filter p):=List.Pairwise.sublist (List.filter_sublist) h
theorem St.go{B:Nat}{l:List Ino}(h:St B l)(id:Int):St B (goN l id):=by
 unfold goN
 by_cases h0:namedN l id=0
 ·rw [decide_eq_true h0]
  simp only [cond_true]
  refine⟨Nat.le_trans (List.length_filter_le _ _) h.len,Nat.le_trans (sum_filter _ _ _) h.nms,Nat.le_trans (sum_filter _ _ _) h.bytes,dist_iff.2 (nd_filter _ (dist_iff.1 h.dist)),exs_mem.2 fun x hx d hd=>?_,fun i hi hk=>?_⟩
  ·have hx:=(List.mem_filter.1 hx).1
   obtain ⟨y,hy,he⟩:=exs_mem.1 h.exs x hx d hd
   refine⟨y,List.mem_filter.2 ⟨hy,?_⟩,he⟩
   have:=named_zero h0 x hx d hd
   rw [Bool.not_eq_true',beq_eq_false_iff_ne,he];exact this
  ·have hx:=(List.mem_filter.1 (gd_mem' (t:=tInode) hi)).1
   obtain ⟨j,hj,he⟩:=mem_gd hx
   rw [← he] at hk ⊢
   exact h.bare j hj hk
 ·rw [decide_eq_false h0];exact h
theorem St.app{B k:Nat}{l:List Ino}{n:Ino}(h:St B l)(hid:iat l n.1=none)(hn:nmsOf n=[])(hd:(dataOf n).length≤k)(hk:1≤k)(hb:kindOf n≠2→maxB n=0∧maxI n=0):St (B+k) (l++[n]):=by
 have h3:=h.nms
 have h4:=h.bytes
 have h5:=h.len
 refine⟨by simp;omega,by unfold nmsN at *;simp [hn];omega,by unfold bytesOf at *;simp;omega,dist_iff.2 ?_,exs_mem.2 fun x hx d hd'=>?_,fun i hi hk=>?_⟩
 ·refine List.pairwise_append.2 ⟨dist_iff.1 h.dist,List.pairwise_singleton _ _,fun a ha b hb' he=>?_⟩
  simp only [List.mem_singleton] at hb'
  subst hb'
  have:(iat l b.1).isSome=true:=iat_mem.2 ⟨a,ha,he⟩
  rw [hid] at this;cases this
 ·rcases List.mem_append.1 hx with hx | hx
  ·obtain ⟨y,hy,he⟩:=exs_mem.1 h.exs x hx d hd'
   exact⟨y,List.mem_append_left _ hy,he⟩
  ·simp only [List.mem_singleton] at hx
   subst hx
   rw [hn] at hd';simp at hd'
 ·rcases Nat.lt_or_ge i l.length with hl | hl
  ·rw [gd_app hl] at hk ⊢;exact h.bare i hl hk
  ·have:i=l.length:=by simp at hi;omega
   subst this
   have he:gd tInode (l++[n]) l.length=n:=by rw [gd_eq (by simp)];simp
   rw [he] at hk ⊢
   exact⟨(hb hk).1,(hb hk).2,hn⟩
def fitsN(l:List Ino):Int:=cond (decide ((bytesOf l:Int)>400)) 28 (cond (overAny l) 122 0)
theorem over_eq{B:Nat}(v:tVol.D)(c:tCred.D)(x:tCall.D)(h:St B v.2.1)(hB:B≤1048576):impl_doer_over ((v,c,x,()),())=some (fitsN v.2.1,()):=by
 have h1:=Nat.le_trans h.len hB
 have h2:=Nat.le_trans h.nms hB
 have h3:=Nat.le_trans h.bytes hB
 show impl_doer_over_s (v,c,x,())=_
 unfold impl_doer_over_s fitsN
 show Option.bind (impl_Vol_total (v,())) _=_
 rw [impl_total_eq v h1 h3]
 simp only [obs]
 show cond _ _ (Option.bind (slices_ContainsFunc_impl_Inode_impl_Inode_impl_Vol_isOver (v.2.1,v,())) _)=_
 rw [impl_over_eq v h1 h2 h3 h.dist h.exs]
 simp only [obs]
 cases decide ((bytesOf v.2.1:Int)>400) <;> cases overAny v.2.1 <;> rfl
theorem fits_eq{B:Nat}(v:tVol.D)(h:St B v.2.1)(hB:B≤1048576):spec_l7Fits (v,())=some (fitsN v.2.1,()):=by
 have h1:=Nat.le_trans h.len hB
 have h2:=Nat.le_trans h.nms hB
 have h3:=Nat.le_trans h.bytes hB
 show spec_l7Fits_s v=_
 unfold spec_l7Fits_s fitsN
 rw [spec_Bytes_eq v h1 h3]
 simp only [obs]
 rw [spec_Over_eq v h1 h2 h3 (fun i hi hk=>⟨(h.bare i hi hk).1,(h.bare i hi hk).2.1⟩)]
 simp only [obs]
 cases decide ((bytesOf v.2.1:Int)>400) <;> cases overAny v.2.1 <;> rfl
theorem try_eq{B:Nat}(u v:tVol.D)(h:St B v.2.1)(hB:B≤1048576):spec_l7Try (u,v,())=some (cond (fitsN v.2.1==0) v u,(fitsN v.2.1,[],()),()):=by
 show spec_l7Try_s u v=_
 unfold spec_l7Try_s
 rw [fits_eq v h hB]
 simp only [obs]
 by_cases h0:fitsN v.2.1=0
 ·rw [bne_f h0,beq_t h0,h0];rfl
 ·rw [bne_t h0,beq_f h0];rfl
def lookL:List tDirent.D→Txt→Int
 | [],_=>0
 | d :: r,s=>cond (eqS d.1 s) d.2.1 (lookL r s)
theorem fnd_succ{n:Nat}{P:Nat→Bool} : fnd (n+1) P=cond (P 0) (some 0) ((fnd n fun i=>P (i+1)).map (· + 1)):=by
 cases h0:P 0
 ·simp only [cond_false]
  cases h:fnd n fun i=>P (i+1) with
  | none =>
   refine fnd_none.2 fun i hi=>?_
   cases i with
   | zero=>exact h0
   | succ i=>exact fnd_none.1 h i (by omega)
  | some k =>
   obtain ⟨h1,h2,h3⟩:=fnd_some.1 h
   refine fnd_some.2 ⟨show k+1<n+1 by omega,h2,fun j hj=>?_⟩
   have hj:j<k+1:=hj
   cases j with
   | zero=>exact h0
   | succ j=>exact h3 j (by omega)
 ·exact fnd_some.2 ⟨by omega,h0,fun j hj=>by omega⟩
theorem look_eq(s:Txt):∀N:List tDirent.D,lookN N s=lookL N s
 | []=>rfl
 | d :: r=>by
  unfold lookN lookL
  rw [List.length_cons,fnd_succ]
  show lookR (d :: r) (cond (eqS d.1 s) _ _)=_
  cases hd:eqS d.1 s
  ·simp only [cond_false]
   rw [← look_eq s r]
   unfold lookN
   show lookR (d :: r) ((fnd r.length (nameP r s)).map (· + 1))=_
   cases fnd r.length (nameP r s) <;> rfl
  ·rfl
def lastI(N:List tDirent.D)(s:Txt)(id:Int):Int:=N.foldl (fun a d=>cond (eqS d.1 s) d.2.1 a) id
theorem last_no{s:Txt}{id:Int} : ∀ {N:List tDirent.D},(∀d,d∈N→d.1≠s)→lastI N s id=id
 | [],_=>rfl
 | d :: r,h=>by
  have h1:eqS d.1 s=false:=by unfold eqS;simpa using h d List.mem_cons_self
  unfold lastI
  rw [List.foldl_cons,h1]
  exact last_no fun e he=>h e (List.mem_cons_of_mem _ he)
theorem last_eq{s:Txt} : ∀ {N:List tDirent.D},Sorted N→lastI N s 0=lookN N s
 | [],_=>rfl
 | d :: r,h=>by
  obtain ⟨h1,h2⟩:=List.pairwise_cons.1 h
  rw [look_eq,lookL,← look_eq]
  unfold lastI
  rw [List.foldl_cons]
  cases hd:eqS d.1 s
  ·exact last_eq h2
  ·have hd:d.1=s:=by unfold eqS at hd;simpa using hd
   refine last_no fun e he=>?_
   have:=h1 e he
   rw [hd] at this
   exact(lt_ne this).symm
theorem spec_Drop_eq(v:tVol.D)(dir:Int)(s:Txt)(hl:v.2.1.length≤1048576)(hm:nmsN v.2.1≤1048576){i:Nat}(h:iat v.2.1 dir=some i)(hs:Sorted (nmsOf (gd tInode v.2.1 i))) :
  spec_l7Drop (v,dir,s,())=some ((v.1,goN (v.2.1.set i (setN (gd tInode v.2.1 i) (unN (nmsOf (gd tInode v.2.1 i)) s))) (lookN (nmsOf (gd tInode v.2.1 i)) s),()),()):=by
 show spec_l7Drop_s (spec_l7Drop_L BIG) v dir s=_
 unfold spec_l7Drop_s
 rw [spec_Node_eq v dir hl h]
 simp only [obs]
 obtain ⟨hi,hid⟩:=iat_lt h
 have hn:=Nat.le_trans (nms_get hi) hm
 have hsm:nmsN (v.2.1.set i (setN (gd tInode v.2.1 i) (unN (nmsOf (gd tInode v.2.1 i)) s)))≤1048576:=by
  have:=nmsN_set (l:=v.2.1) (y:=setN (gd tInode v.2.1 i) (unN (nmsOf (gd tInode v.2.1 i)) s)) hi
  rw [nms_setN] at this
  have:=un_len (nmsOf (gd tInode v.2.1 i)) s
  omega
 have hsl:(v.2.1.set i (setN (gd tInode v.2.1 i) (unN (nmsOf (gd tInode v.2.1 i)) s))).length≤1048576:=by rw [List.length_set];exact hl
 rw [← last_eq hs]
 generalize hN:nmsOf (gd tInode v.2.1 i)=N at hn hs hsm hsl
 have hw:iat v.2.1 (setN (gd tInode v.2.1 i) (unN N s)).1=some i:=by rw [show(setN (gd tInode v.2.1 i) (unN N s)).1=dir from hid];exact h
 have key:∀(r j:Nat) (id:Int),j+r=N.length→Ev (fun m=>(spec_l7Drop_L m).k5 s id (j:Int) v (0,([]:List tInode.D),()) (gd tInode v.2.1 i) (unN (N.take j) s)) (r+1048580) (some ((v.1,goN (v.2.1.set i (setN (gd tInode v.2.1 i) (unN N s))) (lastI (N.drop j) s id),()),())):=by
  intro r
  induction r with
  | zero =>
   intro j id hj
   have hjN:j=N.length:=by omega
   subst hjN
   rw [List.drop_length,List.take_length]
   show Ev _ _ (some ((v.1,goN (v.2.1.set i (setN (gd tInode v.2.1 i) (unN N s))) id,()),()))
   have hb:∀m,(spec_l7Drop_L (m+1)).k5 s id (N.length:Int) v (0,([]:List tInode.D),()) (gd tInode v.2.1 i) (unN N s) =
     cond (decide (((namedN (v.2.1.set i (setN (gd tInode v.2.1 i) (unN N s))) id:Nat):Int)>0)) (some ((v.1,v.2.1.set i (setN (gd tInode v.2.1 i) (unN N s)),()),())) ((spec_l7Drop_L m).k16 id 0 (v.1,v.2.1.set i (setN (gd tInode v.2.1 i) (unN N s)),()) (0,([]:List tInode.D),()) ([]:List tInode.D)):=by
    intro m
    show spec_l7Drop_b5 (spec_l7Drop_L m) s id (N.length:Int) v (0,([]:List tInode.D),()) (gd tInode v.2.1 i) (unN N s)=_
    unfold spec_l7Drop_b5
    show cond (decide ((N.length:Int)<((nmsOf (gd tInode v.2.1 i)).length:Int))) _ (Option.bind (spec_l7With (v,setN (gd tInode v.2.1 i) (unN N s),())) _)=_
    rw [hN,lt_f (Nat.le_refl _),spec_With_set v _ hl hw]
    simp only [cond_false,obs]
    rw [spec_Named_eq (v.1,v.2.1.set i (setN (gd tInode v.2.1 i) (unN N s)),()) id hsl hsm]
    rfl
   generalize v.2.1.set i (setN (gd tInode v.2.1 i) (unN N s))=l at hb hsl
   unfold goN
   by_cases h0:namedN l id=0
   ·rw [decide_eq_true h0]
    simp only [cond_true]
    have h16:=stepsEv 1 (fun m j=>(spec_l7Drop_L m).k16 id (j:Int) (v.1,l,()) (0,([]:List tInode.D),()) ((l.take j).filter fun y => !(y.1==id))) (some ((v.1,l.filter fun y => !(y.1==id),()),())) l.length 1 (fun j hj B y he=>he.step fun m=>by
     have hfl:((l.take j).filter fun y => !(y.1==id)).length≤j:=Nat.le_trans (List.length_filter_le _ _) (by rw [List.length_take];omega)
     show spec_l7Drop_b16 (spec_l7Drop_L m) id (j:Int) (v.1,l,()) (0,([]:List tInode.D),()) ((l.take j).filter fun y => !(y.1==id))=_
     unfold spec_l7Drop_b16
     show cond (decide ((j:Int)<(l.length:Int))) ((ix l.length (j:Int)).bind fun v1=>cond (!((gd tInode l (0+v1)).1==id)) _ _) _=_
     rw [lt_t hj,ix_nat hj]
     simp only [cond_true,obs,Nat.zero_add]
     rw [inc_i j (by omega),List.take_succ_eq_append_getElem hj,List.filter_append,List.filter_cons,List.filter_nil,gd_eq hj]
     cases hc:(!((l[j]).1==id))
     ·simp
     ·simp only [cond_true,if_true]
      rw [room_t (by simp only [List.length_cons,List.length_nil];omega)];rfl) (Ev.now 1 fun m=>by
     show spec_l7Drop_b16 (spec_l7Drop_L m) id (l.length:Int) (v.1,l,()) (0,([]:List tInode.D),()) ((l.take l.length).filter fun y => !(y.1==id))=_
     unfold spec_l7Drop_b16
     show cond (decide ((l.length:Int)<(l.length:Int))) _ _=_
     rw [lt_f (Nat.le_refl _),List.take_length];rfl)
    refine(h16.jump (f:=fun m=>(spec_l7Drop_L m).k5 s id (N.length:Int) v (0,([]:List tInode.D),()) (gd tInode v.2.1 i) (unN N s)) 1 fun m=>?_).mono (by omega)
    rw [hb m,decide_eq_false (by omega)];rfl
   ·rw [decide_eq_false h0]
    simp only [cond_false]
    refine(Ev.now 1 fun m=>?_).mono (by omega)
    rw [hb m,decide_eq_true (by omega)];rfl
  | succ r ih =>
   intro j id hj
   have hjl:j<N.length:=by omega
   have ih:=ih (j+1) (cond (eqS (gd tDirent N j).1 s) (gd tDirent N j).2.1 id) (by omega)
   have hlast:lastI (N.drop (j+1)) s (cond (eqS (gd tDirent N j).1 s) (gd tDirent N j).2.1 id)=lastI (N.drop j) s id:=by
    rw [drop_cons (t:=tDirent) hjl];rfl
   rw [hlast] at ih
   refine(ih.jump (f:=fun m=>(spec_l7Drop_L m).k5 s id (j:Int) v (0,([]:List tInode.D),()) (gd tInode v.2.1 i) (unN (N.take j) s)) 1 fun m=>?_).mono (by omega)
   have hfl:(unN (N.take j) s).length≤j:=Nat.le_trans (List.length_filter_le _ _) (by rw [List.length_take];omega)
   show spec_l7Drop_b5 (spec_l7Drop_L m) s id (j:Int) v (0,([]:List tInode.D),()) (gd tInode v.2.1 i) (unN (N.take j) s)=_
   unfold spec_l7Drop_b5
   show cond (decide ((j:Int)<((nmsOf (gd tInode v.2.1 i)).length:Int))) ((ix (nmsOf (gd tInode v.2.1 i)).length (j:Int)).bind fun v1=>cond (eqS (gd tDirent (nmsOf (gd tInode v.2.1 i)) v1).1 s)
    ((ix (nmsOf (gd tInode v.2.1 i)).length (j:Int)).bind fun v2=>(spec_l7Drop_L m).k5 s (gd tDirent (nmsOf (gd tInode v.2.1 i)) v2).2.1 (w64 ((j:Int)+1)) v (0,([]:List tInode.D),()) (gd tInode v.2.1 i) (unN (N.take j) s))
    ((ix (nmsOf (gd tInode v.2.1 i)).length (j:Int)).bind fun v3=>cond (room ((unN (N.take j) s).length+1)) ((spec_l7Drop_L m).k5 s id (w64 ((j:Int)+1)) v (0,([]:List tInode.D),()) (gd tInode v.2.1 i) (unN (N.take j) s++[gd tDirent (nmsOf (gd tInode v.2.1 i)) v3])) none)) _=_
   rw [hN,lt_t hjl,ix_nat hjl]
   simp only [cond_true,obs]
   rw [inc_i j (by omega)]
   have hun:unN (N.take (j+1)) s=unN (N.take j) s++cond (eqS (gd tDirent N j).1 s) [] [gd tDirent N j]:=by
    unfold unN
    rw [List.take_succ_eq_append_getElem hjl,List.filter_append,List.filter_cons,List.filter_nil,gd_eq hjl]
    cases eqS (N[j]).1 s <;> rfl
   rw [hun]
   cases eqS (gd tDirent N j).1 s
   ·simp only [cond_false]
    rw [room_t (by omega)];rfl
   ·simp only [cond_true,List.append_nil]
 have:=key N.length 0 0 (by omega)
 rw [List.drop_zero] at this
 exact ev_big this (by omega)
theorem bits_nat(op:BinOp)(x y:Nat):bitsI op .i64 (x:Int) (y:Int)=(match op with
 | .and=>IntKind.wrap .i64 ((BitVec.ofNat 64 x &&& BitVec.ofNat 64 y).toNat:Int)
 | .or=>IntKind.wrap .i64 ((BitVec.ofNat 64 x ||| BitVec.ofNat 64 y).toNat:Int)
 | .xor=>IntKind.wrap .i64 ((BitVec.ofNat 64 x ^^^ BitVec.ofNat 64 y).toNat:Int)
 | _=>IntKind.wrap .i64 ((BitVec.ofNat 64 x &&& ~~~BitVec.ofNat 64 y).toNat:Int)):=by
 unfold bitsI
 rw [show(IntKind.i64).bits=64 from rfl]
 simp only [BitVec.ofInt_natCast]
 cases op <;> rfl
theorem band_nat{x y:Nat}(hx:x<4611686018427387904)(hy:y<4611686018427387904):bitsI .and .i64 (x:Int) (y:Int)=((x &&& y:Nat):Int):=by
 rw [bits_nat]
 simp only
 rw [BitVec.toNat_and,BitVec.toNat_ofNat,BitVec.toNat_ofNat,Nat.mod_eq_of_lt (show x<2 ^ 64 by omega),Nat.mod_eq_of_lt (show y<2 ^ 64 by omega)]
 have:x &&& y≤x:=Nat.and_le_left
 exact w64_in (by omega) (by omega)
theorem bor_nat{x y:Nat}(hx:x<4611686018427387904)(hy:y<4611686018427387904):bitsI .or .i64 (x:Int) (y:Int)=((x ||| y:Nat):Int):=by
 rw [bits_nat]
 simp only
 rw [BitVec.toNat_or,BitVec.toNat_ofNat,BitVec.toNat_ofNat,Nat.mod_eq_of_lt (show x<2 ^ 64 by omega),Nat.mod_eq_of_lt (show y<2 ^ 64 by omega)]
 have:x ||| y<2 ^ 62:=Nat.or_lt_two_pow (by omega) (by omega)
 exact w64_in (by omega) (by omega)
theorem and_1024{x:Nat}(h:x<2048):x &&& 1024=1024*(x / 1024):=by
 have h1:(x &&& 1024) / 2 ^ 10=x / 2 ^ 10 &&& 1024 / 2 ^ 10:=Nat.and_div_two_pow
 have h2:(x &&& 1024) % 2 ^ 10=x % 2 ^ 10 &&& 1024 % 2 ^ 10:=Nat.and_mod_two_pow
 rw [show 1024 / 2 ^ 10=1 from rfl,Nat.and_one_is_mod] at h1
 rw [show 1024 % 2 ^ 10=0 from rfl,Nat.and_zero] at h2
 omega
theorem band_1024{m:Int}(h:0≤m)(h':m≤2047):bitsI .and .i64 m 1024=0∨bitsI .and .i64 m 1024=1024:=by
 obtain ⟨n,rfl⟩:∃n:Nat,m=n:=⟨m.toNat,by omega⟩
 have:=band_nat (x:=n) (y:=1024) (by omega) (by omega)
 rw [show((1024:Nat):Int)=1024 from rfl] at this
 rw [this,and_1024 (by omega)]
 omega
theorem bor_zero{m:Int}(h:0≤m)(h':m≤2047):bitsI .or .i64 m 0=m:=by
 obtain ⟨n,rfl⟩:∃n:Nat,m=n:=⟨m.toNat,by omega⟩
 have:=bor_nat (x:=n) (y:=0) (by omega) (by omega)
 rw [show((0:Nat):Int)=0 from rfl] at this
 rw [this,Nat.or_zero]
def kdC(x:tCall.D):Int:=x.1
def pathC(x:tCall.D):Txt:=x.2.1
def toC(x:tCall.D):Txt:=x.2.2.1
def nC(x:tCall.D):Int:=x.2.2.2.1
def mC(x:tCall.D):Int:=x.2.2.2.2.1
def datC(x:tCall.D):Txt:=x.2.2.2.2.2.1
structure CallR(x:tCall.D):Prop where
 kd:1≤kdC x∧kdC x≤22
 path:(pathC x).length≤60
 toL:(toC x).length≤60
 dat:(datC x).length≤64
 n : -1000000≤nC x∧nC x≤1000000
 m : -1000000≤mC x∧mC x≤1000000
 noTo:toC x=[]∨kdC x=9∨kdC x=10∨kdC x=12
 noDat:datC x=[]∨kdC x=5∨kdC x=6
theorem callOk_iff{x:tCall.D} : callOk x=true↔CallR x:=by
 unfold callOk
 simp only [Bool.and_eq_true,Bool.or_eq_true,decide_eq_true_eq,beq_iff_eq,nil_eqS]
 constructor
 ·rintro ⟨⟨⟨⟨⟨⟨⟨h1,h2⟩,h3⟩,h4⟩,h5⟩,h6⟩,h7⟩,h8⟩
  exact⟨inR_iff.1 h1,Int.ofNat_le.1 h2,Int.ofNat_le.1 h3,Int.ofNat_le.1 h4,inR_iff.1 h5,inR_iff.1 h6,h7,h8⟩
 ·intro h
  exact⟨⟨⟨⟨⟨⟨⟨inR_iff.2 h.kd,Int.ofNat_le.2 h.path⟩,Int.ofNat_le.2 h.toL⟩,Int.ofNat_le.2 h.dat⟩,inR_iff.2 h.n⟩,inR_iff.2 h.m⟩,h.noTo⟩,h.noDat⟩
theorem mem_ins{N:List tDirent.D}{s:Txt}{id:Int}{d:tDirent.D} : d∈ins N s id↔d∈N∨d=(s,id,()):=by
 have:=List.takeWhile_append_dropWhile (p:=ltP s) (l:=N)
 unfold ins
 conv=>rhs;rw [← this]
 simp only [List.mem_append,List.mem_singleton]
 constructor
 ·rintro ((h | h) | h)
  ·exact .inl (.inl h)
  ·exact .inr h
  ·exact .inl (.inr h)
 ·rintro ((h | h) | h)
  ·exact .inl (.inl h)
  ·exact .inr h
  ·exact .inl (.inr h)
theorem look_zero{N:List tDirent.D}{s:Txt}(h:lookN N s=0)(h0:∀d,d∈N→d.2.1≠0):∀d,d∈N→d.1≠s:=by
 intro d hd he
 obtain ⟨i,hi,hg⟩:=mem_gd hd
 unfold lookN at h
 cases hf:fnd N.length (nameP N s) with
 | none =>
  have:=fnd_none.1 hf i hi
  unfold nameP eqS at this
  rw [hg] at this
  simp [he] at this
 | some j =>
  rw [hf] at h
  obtain ⟨h1,_,_⟩:=fnd_some.1 hf
  exact h0 _ (gd_mem' h1) h
theorem VolR.id_pos{v:tVol.D}(h:VolR v){x:Ino}(hx:x∈v.2.1):1≤idOf x∧idOf x≤nextOf v-1:=by
 obtain ⟨i,hi,he⟩:=mem_gd hx
 have:=h.ids i hi
 rw [he] at this;exact this
theorem VolR.name_pos{v:tVol.D}(h:VolR v){i:Nat}(hi:i<v.2.1.length){d:tDirent.D}(hd:d∈nmsOf (gd tInode v.2.1 i)):d.2.1≠0:=by
 obtain ⟨y,hy,he⟩:=iat_mem.1 (h.exs i hi d hd)
 have h1:=h.id_pos hy
 intro h0
 have:idOf y=0:=he.trans h0
 omega
theorem VolR.free{v:tVol.D}(h:VolR v):iat v.2.1 v.1=none:=by
 cases hi:iat v.2.1 v.1 with
 | none=>rfl
 | some i =>
  obtain ⟨h1,h2⟩:=iat_lt hi
  have:=h.ids i h1
  have h2:idOf (gd tInode v.2.1 i)=nextOf v:=h2
  omega
theorem VolR.wk'{v:tVol.D}(h:VolR v):Wk v.2.1 :=
 ⟨by have:=h.len;omega,by have:=h.nms;omega,h.dist,h.exs,fun i hi hk=>((h.ino i hi).plain hk).2.2,fun i hi hk=>((h.ino i hi).lnk hk).1,0,by
  have:=h.dist 0 (by have:=h.len;omega)
  rwa [show(gd tInode v.2.1 0).1=1 from h.root.1] at this,h.root.2⟩
def Same2(v:tVol.D)(c:tCred.D)(x:tCall.D)(a:Option (Int×tDoer.D×Unit))(b:Option (tVol.D×tResult.D×Unit))(Q:tVol.D→Prop):Prop :=
 ∃(code:Int) (w:tVol.D),a=some (code,(w,c,x,()),())∧b=some (cond (code==0) w v,(code,[],()),())∧(code=0→Q w)
theorem Same2.no{v:tVol.D}{c:tCred.D}{x:tCall.D}{a:Option (Int×tDoer.D×Unit)}{b:Option (tVol.D×tResult.D×Unit)}{Q:tVol.D→Prop}(code:Int)(h0:code≠0)(ha:a=some (code,(v,c,x,()),()))(hb:b=some (v,(code,[],()),())):Same2 v c x a b Q :=
 ⟨code,v,ha,by rw [beq_f h0];exact hb,fun h=>absurd h h0⟩
def newKd(x:tCall.D):Int:=if kdC x=1 then 2 else if kdC x=10 then 3 else 1
def newMd(x:tCall.D)(d:Ino):Int:=if kdC x=10 then 511 else if kdC x=1∧bitsI .and .i64 (modeOf d) 1024≠0 then bitsI .or .i64 (nC x) 1024 else nC x
def newGid(c:tCred.D)(d:Ino):Int:=if bitsI .and .i64 (modeOf d) 1024≠0 then gidOf d else c.2.1
def newI(v:tVol.D)(c:tCred.D)(x:tCall.D)(d:Ino):Ino:=(v.1,newKd x,newMd x d,c.1,newGid c d,if kdC x=10 then toC x else [],[],0,0,())
def badMake(x:tCall.D):Bool:=cond (kdC x==10) (!targetOk (toC x)) (!inR (nC x) 0 2047)
structure Made(v:tVol.D)(c:tCred.D)(x:tCall.D)(w:tVol.D):Prop where
 bad:badMake x=false
 out:∃r i,SpotOk v.2.1 r∧codeS r=2∧nameOf r≠[]∧iat v.2.1 (dirOf r)=some i∧kindOf (gd tInode v.2.1 i)=2∧may c (gd tInode v.2.1 i) 3=true∧(nmsOf (gd tInode v.2.1 i)).length<12∧v.2.1.length<24∧nextOf v<100000 ∧
  w=(v.1+1,v.2.1.set i (setN (gd tInode v.2.1 i) (ins (nmsOf (gd tInode v.2.1 i)) (nameOf r) v.1))++[newI v c x (gd tInode v.2.1 i)],())∧fitsN w.2.1=0
theorem mkI4(m:Nat)(a b):(impl_doer_make_L (m+1)).k4 a b=impl_doer_make_b4 (impl_doer_make_L m) a b:=rfl
theorem mkI23(m:Nat)(a b d):(impl_doer_make_L (m+1)).k23 a b d=impl_doer_make_b23 (impl_doer_make_L m) a b d:=rfl
theorem mkS3(m:Nat)(a b d e f):(spec_l7Make_L (m+1)).k3 a b d e f=spec_l7Make_b3 (spec_l7Make_L m) a b d e f:=rfl
theorem mkS22(m:Nat)(a b d e f):(spec_l7Make_L (m+1)).k22 a b d e f=spec_l7Make_b22 (spec_l7Make_L m) a b d e f:=rfl
theorem may_impl(v:tVol.D)(c:tCred.D)(x:tCall.D)(id:Int)(hl:v.2.1.length≤1048576)(hc:credOk c=true){i:Nat}(h:iat v.2.1 id=some i):impl_doer_mayChange ((v,c,x,()),id,())=some (may c (gd tInode v.2.1 i) 3,()):=by
 show impl_doer_mayChange_s (v,c,x,()) id=_
 unfold impl_doer_mayChange_s
 show Option.bind (impl_Vol_inode (v,id,())) _=_
 rw [impl_inode_some v id hl h]
 simp only [obs,List.isEmpty_cons,Bool.not_false,cond_true]
 show Option.bind (impl_May (c,gd tInode v.2.1 i,3,())) _=_
 rw [impl_May_eq c _ 3 hc];rfl
theorem make_both(v:tVol.D)(c:tCred.D)(x:tCall.D)(hv:VolR v)(hc:credOk c=true)(hx:CallR x):Same2 v c x (impl_doer_make ((v,c,x,()),())) (spec_l7Make (v,c,x,())) (Made v c x):=by
 have hwk:=hv.wk'
 have hl:v.2.1.length≤1048576:=hwk.len
 have hp:=hx.path
 obtain ⟨q,hq,hq2⟩:=big_pred 4
 have hI:impl_doer_make ((v,c,x,()),())=cond (badMake x) (some (22,(v,c,x,()),())) ((impl_doer_make_L BIG).k4 (v,c,x,()) x):=by
  show impl_doer_make_s (impl_doer_make_L BIG) (v,c,x,())=_
  unfold impl_doer_make_s badMake
  show cond (kdC x==10) (Option.bind (impl_isTarget (toC x,())) fun v1=>cond (!v1.1) _ (cond (!(kdC x==10)) _ _)) (cond (!(kdC x==10)) (Option.bind (impl_within (nC x,0,2047,())) _) _)=_
  rw [impl_Target_eq _ (by have:=hx.toL;omega)]
  cases kdC x==10
  ·simp only [cond_false,Bool.not_false,cond_true,obs]
   rw [within_eq];rfl
  ·simp only [cond_true,Bool.not_true,cond_false,obs]
 have hS:spec_l7Make (v,c,x,())=cond (badMake x) (some (v,(22,[],()),())) ((spec_l7Make_L BIG).k3 v c x (0,([]:List tInode.D),()) (0,([]:Txt),())):=by
  show spec_l7Make_s (spec_l7Make_L BIG) v c x=_
  unfold spec_l7Make_s badMake
  show cond (kdC x==10) (Option.bind (spec_l4Target (toC x,())) fun v1=>cond (!v1.1) _ (cond (!(kdC x==10)) _ _)) (cond (!(kdC x==10)) (Option.bind (spec_l1In (nC x,0,2047,())) _) _)=_
  rw [spec_Target_eq]
  cases kdC x==10
  ·simp only [cond_false,Bool.not_false,cond_true,obs]
   rw [l1In_eq];rfl
  ·simp only [cond_true,Bool.not_true,cond_false,obs]
 rw [hI,hS]
 cases hb:badMake x with
 | true=>exact Same2.no 22 (by decide) rfl rfl
 | false =>
 simp only [cond_false]
 rw [hq,mkI4,mkS3]
 unfold impl_doer_make_b4 spec_l7Make_b3
 obtain ⟨r,r',code,hnI,hnS,hn0⟩:=new_eq v c x (pathC x) hwk hc (by omega)
 show Same2 v c x (Option.bind (impl_doer_isNew ((v,c,x,()),pathC x,())) _) (Option.bind (spec_l7New (v,c,pathC x,())) _) _
 rw [hnI,hnS]
 simp only [obs]
 by_cases hcode:code=0
 case neg =>
  rw [bne_t hcode]
  exact Same2.no code hcode rfl rfl
 obtain ⟨rfl,hr,hr2,hrn⟩:=hn0 hcode
 rw [bne_f hcode]
 simp only [cond_false]
 obtain ⟨hid0,hnm,d,hd,hdk,hlook⟩:=hr.new hr2 hrn
 have hdl:=iat_lt hd
 show Same2 v c x (Option.bind (impl_doer_mayChange ((v,c,x,()),dirOf r',())) _) (Option.bind (spec_l7Node (v,dirOf r',())) _) _
 rw [may_impl v c x _ hl hc hd,spec_Node_eq v _ hl hd]
 simp only [obs]
 rw [spec_May_eq c _ 3 hc]
 simp only [obs]
 cases hm:may c (gd tInode v.2.1 d) 3 with
 | false=>exact Same2.no 13 (by decide) rfl rfl
 | true =>
 simp only [Bool.not_true,cond_false]
 show Same2 v c x (Option.bind (impl_Vol_inode (v,dirOf r',())) _) _ _
 rw [impl_inode_some v _ hl hd]
 simp only [obs,List.isEmpty_cons,Bool.not_false,cond_true]
 have hino:=hv.ino d hdl.1
 have hn12:=(hino.dir hdk).2.2.2
 show Same2 v c x (cond (((nmsOf (gd tInode v.2.1 d)).length:Int)==12) _ (cond ((v.2.1.length:Int)==24) _ (cond (nextOf v==100000) _ _))) (cond (decide (((nmsOf (gd tInode v.2.1 d)).length:Int)≥12)) _ (cond (decide ((v.2.1.length:Int)≥24)) _ (cond (decide (nextOf v≥100000)) _ _))) _
 by_cases h12:(nmsOf (gd tInode v.2.1 d)).length=12
 ·rw [show(((nmsOf (gd tInode v.2.1 d)).length:Int)==12)=true by rw [h12];rfl,decide_eq_true (by omega)]
  exact Same2.no 28 (by decide) rfl rfl
 rw [show(((nmsOf (gd tInode v.2.1 d)).length:Int)==12)=false by rw [beq_eq_false_iff_ne];omega,decide_eq_false (show ¬((nmsOf (gd tInode v.2.1 d)).length:Int)≥12 by omega)]
 simp only [cond_false]
 have hlen:=hv.len
 have hnext:=hv.next
 by_cases h24:v.2.1.length=24
 ·rw [show((v.2.1.length:Int)==24)=true by rw [h24];rfl,decide_eq_true (by omega)]
  exact Same2.no 28 (by decide) rfl rfl
 rw [show((v.2.1.length:Int)==24)=false by rw [beq_eq_false_iff_ne];omega,decide_eq_false (show ¬(v.2.1.length:Int)≥24 by omega)]
 simp only [cond_false]
 by_cases hnx:nextOf v=100000
 ·rw [beq_t hnx,decide_eq_true (show nextOf v≥100000 by omega)]
  exact Same2.no 28 (by decide) rfl rfl
 rw [beq_f hnx,decide_eq_false (show ¬nextOf v≥100000 by omega)]
 simp only [cond_false]
 obtain ⟨w,hw⟩:∃w:tVol.D,w=(v.1+1,v.2.1.set d (setN (gd tInode v.2.1 d) (ins (nmsOf (gd tInode v.2.1 d)) (nameOf r') v.1))++[newI v c x (gd tInode v.2.1 d)],()):=⟨_,rfl⟩
 have hw64:w64 (v.1+1)=v.1+1:=w64_sm (a:=nextOf v+1) (by omega) (by omega)
 have hstA:St 1000 (v.2.1++[newI v c x (gd tInode v.2.1 d)]):=(hv.st.app (k:=100) (n:=newI v c x (gd tInode v.2.1 d)) hv.free rfl (by
  show(if kdC x=10 then toC x else []).length≤100
  have:=hx.toL
  split
  ·omega
  ·simp) (by omega) (fun _=>⟨rfl,rfl⟩)).mono (by omega)
 have hst:St 1000 w.2.1:=by
  rw [hw]
  have hg:gd tInode (v.2.1++[newI v c x (gd tInode v.2.1 d)]) d=gd tInode v.2.1 d:=gd_app hdl.1
  have:=(hv.st.app (k:=100) (n:=newI v c x (gd tInode v.2.1 d)) hv.free rfl (by
   show(if kdC x=10 then toC x else []).length≤100
   have:=hx.toL
   split
   ·omega
   ·simp) (by omega) (fun _=>⟨rfl,rfl⟩)).set (k:=1) (i:=d) (y:=setN (gd tInode v.2.1 d) (ins (nmsOf (gd tInode v.2.1 d)) (nameOf r') v.1)) (by simp;omega) (by rw [hg];rfl) (by
    intro e he
    rcases mem_ins.1 he with he | rfl
    ·obtain ⟨y,hy,hye⟩:=iat_mem.1 (hv.exs d hdl.1 e he)
     exact iat_mem.2 ⟨y,List.mem_append_left _ hy,hye⟩
    ·exact iat_mem.2 ⟨newI v c x (gd tInode v.2.1 d),List.mem_append_right _ (List.mem_singleton.2 rfl),rfl⟩) (fun hk=>absurd hdk hk) (by
    rw [hg];show(ins (nmsOf (gd tInode v.2.1 d)) (nameOf r') v.1).length≤_;rw [ins_len];omega) (by rw [hg];exact Nat.le_add_right _ _)
  rw [set_app hdl.1] at this
  exact this.mono (by omega)
 have hfin:∀m n,Same2 v c x ((impl_doer_make_L (m+1)).k23 (v,c,x,()) r' (newI v c x (gd tInode v.2.1 d))) ((spec_l7Make_L (n+1)).k22 v (0,([]:List tInode.D),()) (0,([]:Txt),()) r' (newI v c x (gd tInode v.2.1 d))) (Made v c x):=by
  intro m n
  rw [mkI23,mkS22]
  unfold impl_doer_make_b23 spec_l7Make_b22
  rw [spec_Copy_eq v hl (fun i hi=>Nat.le_trans (nms_get hi) hwk.nms)]
  simp only [obs]
  rw [hw64]
  show Same2 v c x (Option.bind (impl_doer_name (((v.1+1,v.2.1,()),c,x,()),dirOf r',nameOf r',v.1,())) _) (Option.bind (spec_l7With ((v.1+1,v.2.1,()),newI v c x (gd tInode v.2.1 d),())) _) _
  rw [name_eq (v.1+1,v.2.1,()) c x (dirOf r') (nameOf r') v.1 hl hd (Nat.le_trans (nms_get hdl.1) hwk.nms),spec_With_new (v.1+1,v.2.1,()) _ hl hv.free]
  simp only [obs]
  have hg:gd tInode (v.2.1++[newI v c x (gd tInode v.2.1 d)]) d=gd tInode v.2.1 d:=gd_app hdl.1
  have hadd:=spec_Add_eq (v.1+1,v.2.1++[newI v c x (gd tInode v.2.1 d)],()) (dirOf r') (nameOf r') v.1 (by simp;omega) (iat_app hd) (by
   show(nmsOf (gd tInode (v.2.1++[newI v c x (gd tInode v.2.1 d)]) d)).length≤_
   rw [hg];exact Nat.le_trans (nms_get hdl.1) hwk.nms) (by
   show ∀e,e∈nmsOf (gd tInode (v.2.1++[newI v c x (gd tInode v.2.1 d)]) d)→_
   rw [hg];exact look_zero hlook fun e he=>hv.name_pos hdl.1 he)
  rw [show((v.1+1,v.2.1++[newI v c x (gd tInode v.2.1 d)],()):tVol.D).2.1=v.2.1++[newI v c x (gd tInode v.2.1 d)] from rfl,hg,set_app hdl.1,← hw] at hadd
  show Same2 v c x _ (Option.bind (spec_l7Add ((v.1+1,v.2.1++[newI v c x (gd tInode v.2.1 d)],()),dirOf r',nameOf r',v.1,())) _) _
  rw [hadd]
  simp only [obs]
  rw [try_eq v w hst (by omega)]
  simp only [obs]
  rw [room_t (by simp;omega)]
  simp only [cond_true]
  show Same2 v c x (Option.bind (impl_doer_over (((v.1+1,v.2.1.set d (setN (gd tInode v.2.1 d) (ins (nmsOf (gd tInode v.2.1 d)) (nameOf r') v.1))++[newI v c x (gd tInode v.2.1 d)],()),c,x,()),())) fun v2=>some (v2.1,((v.1+1,v.2.1.set d (setN (gd tInode v.2.1 d) (ins (nmsOf (gd tInode v.2.1 d)) (nameOf r') v.1))++[newI v c x (gd tInode v.2.1 d)],()),c,x,()),())) _ _
  rw [← hw,over_eq w c x hst (by omega)]
  exact⟨fitsN w.2.1,w,rfl,rfl,fun h=>⟨hb,r',d,hr,hr2,hrn,hd,hdk,hm,by omega,by omega,by omega,hw,h⟩⟩
 have hN:kdC x≠10→0≤nC x∧nC x≤2047:=by
  intro hk
  unfold badMake at hb
  rw [beq_f hk] at hb
  simp only [cond_false,Bool.not_eq_false'] at hb
  exact inR_iff.1 hb
 have hmd:=hino.mode
 have hbit:=band_1024 hmd.1 hmd.2
 show Same2 v c x (cond (bitsI .and .i64 (modeOf (gd tInode v.2.1 d)) 1024 != 0)
   (cond (kdC x==1) ((impl_doer_make_L (q+3)).k23 (v,c,x,()) r' (v.1,2,bitsI .or .i64 (nC x) (bitsI .and .i64 (modeOf (gd tInode v.2.1 d)) 1024),c.1,gidOf (gd tInode v.2.1 d),[],[],0,0,()))
    (cond (kdC x==10) ((impl_doer_make_L (q+3)).k23 (v,c,x,()) r' (v.1,3,511,c.1,gidOf (gd tInode v.2.1 d),toC x,[],0,0,())) ((impl_doer_make_L (q+3)).k23 (v,c,x,()) r' (v.1,1,nC x,c.1,gidOf (gd tInode v.2.1 d),[],[],0,0,()))))
   (cond (kdC x==1) ((impl_doer_make_L (q+3)).k23 (v,c,x,()) r' (v.1,2,bitsI .or .i64 (nC x) (bitsI .and .i64 (modeOf (gd tInode v.2.1 d)) 1024),c.1,c.2.1,[],[],0,0,()))
    (cond (kdC x==10) ((impl_doer_make_L (q+3)).k23 (v,c,x,()) r' (v.1,3,511,c.1,c.2.1,toC x,[],0,0,())) ((impl_doer_make_L (q+3)).k23 (v,c,x,()) r' (v.1,1,nC x,c.1,c.2.1,[],[],0,0,())))))
  (cond (kdC x==1) ((spec_l7Make_L (q+3)).k14 v x (0,([]:List tInode.D),()) (0,([]:Txt),()) r' (gd tInode v.2.1 d) (v.1,2,nC x,c.1,c.2.1,[],[],0,0,())) ((spec_l7Make_L (q+3)).k14 v x (0,([]:List tInode.D),()) (0,([]:Txt),()) r' (gd tInode v.2.1 d) (v.1,1,nC x,c.1,c.2.1,[],[],0,0,()))) (Made v c x)
 have h14:∀(n:Ino),(spec_l7Make_L (q+3)).k14 v x (0,([]:List tInode.D),()) (0,([]:Txt),()) r' (gd tInode v.2.1 d) n=cond (kdC x==10) ((spec_l7Make_L (q+2)).k18 v (0,([]:List tInode.D),()) (0,([]:Txt),()) r' (gd tInode v.2.1 d) (n.1,3,511,n.2.2.2.1,n.2.2.2.2.1,toC x,n.2.2.2.2.2.2.1,n.2.2.2.2.2.2.2.1,n.2.2.2.2.2.2.2.2.1,())) ((spec_l7Make_L (q+2)).k18 v (0,([]:List tInode.D),()) (0,([]:Txt),()) r' (gd tInode v.2.1 d) n):=fun n=>rfl
 have h18:∀(n:Ino),(spec_l7Make_L (q+2)).k18 v (0,([]:List tInode.D),()) (0,([]:Txt),()) r' (gd tInode v.2.1 d) n=cond (bitsI .and .i64 (modeOf (gd tInode v.2.1 d)) 1024 != 0)
   (cond (n.2.1==2) ((spec_l7Make_L (q+1)).k22 v (0,([]:List tInode.D),()) (0,([]:Txt),()) r' (n.1,n.2.1,bitsI .or .i64 n.2.2.1 1024,n.2.2.2.1,gidOf (gd tInode v.2.1 d),n.2.2.2.2.2.1,n.2.2.2.2.2.2.1,n.2.2.2.2.2.2.2.1,n.2.2.2.2.2.2.2.2.1,()))
    ((spec_l7Make_L (q+1)).k22 v (0,([]:List tInode.D),()) (0,([]:Txt),()) r' (n.1,n.2.1,n.2.2.1,n.2.2.2.1,gidOf (gd tInode v.2.1 d),n.2.2.2.2.2.1,n.2.2.2.2.2.2.1,n.2.2.2.2.2.2.2.1,n.2.2.2.2.2.2.2.2.1,()))) ((spec_l7Make_L (q+1)).k22 v (0,([]:List tInode.D),()) (0,([]:Txt),()) r' n):=fun n=>rfl
 simp only [h14,h18]
 have hfin':=hfin (q+2) q
 unfold newI newKd newMd newGid at hfin'
 by_cases k1:kdC x=1
 ·have k10:kdC x≠10:=by omega
  have hNr:=hN k10
  rw [beq_t k1,beq_f k10]
  rw [if_pos k1,if_neg k10,if_neg k10] at hfin'
  simp only [cond_true,cond_false]
  rcases hbit with hb0 | hb0
  ·rw [hb0] at hfin' ⊢
   rw [if_neg (by simp),if_neg (by simp)] at hfin'
   rw [bor_zero hNr.1 hNr.2]
   exact hfin'
  ·rw [hb0] at hfin' ⊢
   rw [if_pos ⟨k1,by decide⟩,if_pos (by decide)] at hfin'
   exact hfin'
 ·rw [beq_f k1]
  rw [if_neg k1] at hfin'
  by_cases k10:kdC x=10
  ·rw [beq_t k10]
   rw [if_pos k10,if_pos k10,if_pos k10] at hfin'
   simp only [cond_true,cond_false]
   rcases hbit with hb0 | hb0
   ·rw [hb0] at hfin' ⊢
    rw [if_neg (by simp)] at hfin'
    exact hfin'
   ·rw [hb0] at hfin' ⊢
    rw [if_pos (by decide)] at hfin'
    exact hfin'
  ·rw [beq_f k10]
   rw [if_neg k10,if_neg k10,if_neg k10,if_neg (fun h=>k1 h.1)] at hfin'
   simp only [cond_false]
   rcases hbit with hb0 | hb0
   ·rw [hb0] at hfin' ⊢
    rw [if_neg (by simp)] at hfin'
    exact hfin'
   ·rw [hb0] at hfin' ⊢
    rw [if_pos (by decide)] at hfin'
    exact hfin'
def dropV(v:tVol.D)(i:Nat)(s:Txt):tVol.D:=(v.1,goN (v.2.1.set i (setN (gd tInode v.2.1 i) (unN (nmsOf (gd tInode v.2.1 i)) s))) (lookN (nmsOf (gd tInode v.2.1 i)) s),())
structure Removed(v:tVol.D)(c:tCred.D)(x:tCall.D)(w:tVol.D):Prop where
 out:∃r i j,SpotOk v.2.1 r∧codeS r=0∧nameOf r≠[]∧iat v.2.1 (dirOf r)=some i∧kindOf (gd tInode v.2.1 i)=2∧lookN (nmsOf (gd tInode v.2.1 i)) (nameOf r)=idS r∧iat v.2.1 (idS r)=some j∧nmsOf (gd tInode v.2.1 j)=[] ∧
  (kdC x=2→kindOf (gd tInode v.2.1 j)=2)∧(kdC x=8→kindOf (gd tInode v.2.1 j)≠2)∧w=dropV v i (nameOf r)
theorem rmI5(m:Nat)(a b d):(impl_doer_remove_L (m+1)).k5 a b d=impl_doer_remove_b5 (impl_doer_remove_L m) a b d:=rfl
theorem rmI7(m:Nat)(a b d):(impl_doer_remove_L (m+1)).k7 a b d=impl_doer_remove_b7 (impl_doer_remove_L m) a b d:=rfl
theorem rmI9(m:Nat)(a b d):(impl_doer_remove_L (m+1)).k9 a b d=impl_doer_remove_b9 (impl_doer_remove_L m) a b d:=rfl
theorem rmI11(m:Nat)(a b d):(impl_doer_remove_L (m+1)).k11 a b d=impl_doer_remove_b11 (impl_doer_remove_L m) a b d:=rfl
theorem rmS7(m:Nat)(a b d e f g h):(spec_l7Remove_L (m+1)).k7 a b d e f g h=spec_l7Remove_b7 (spec_l7Remove_L m) a b d e f g h:=rfl
theorem rmS9(m:Nat)(a b d e f g h):(spec_l7Remove_L (m+1)).k9 a b d e f g h=spec_l7Remove_b9 (spec_l7Remove_L m) a b d e f g h:=rfl
theorem rmS11(m:Nat)(a b d e f g):(spec_l7Remove_L (m+1)).k11 a b d e f g=spec_l7Remove_b11 (spec_l7Remove_L m) a b d e f g:=rfl
theorem remove_both(v:tVol.D)(c:tCred.D)(x:tCall.D)(hv:VolR v)(hc:credOk c=true)(hx:CallR x)(hk:kdC x=2∨kdC x=8):Same2 v c x (impl_doer_remove ((v,c,x,()),())) (spec_l7Remove (v,c,x,())) (Removed v c x):=by
 have hwk:=hv.wk'
 have hl:v.2.1.length≤1048576:=hwk.len
 have hp:=hx.path
 obtain ⟨q,hq,hq2⟩:=big_pred 4
 show Same2 v c x (impl_doer_remove_s (impl_doer_remove_L BIG) (v,c,x,())) (spec_l7Remove_s (spec_l7Remove_L BIG) v c x) _
 unfold impl_doer_remove_s spec_l7Remove_s
 obtain ⟨r,hr,hsI,hsS⟩:=spot_eq v c x (pathC x) false hwk hc (by omega)
 show Same2 v c x (Option.bind (impl_doer_spot ((v,c,x,()),pathC x,false,())) _) (Option.bind (spec_l7There (v,c,pathC x,false,())) _) _
 rw [hsI,hsS]
 simp only [obs]
 show Same2 v c x (cond (codeS r != 0) (some (codeS r,(v,c,x,()),())) _) (cond (codeS r != 0) (some (v,(codeS r,[],()),())) _) _
 by_cases hcode:codeS r=0
 case neg =>
  rw [bne_t hcode]
  exact Same2.no (codeS r) hcode rfl rfl
 rw [bne_f hcode]
 simp only [cond_false,dup_eq]
 obtain ⟨j,hj⟩:=hr.there hcode
 have hjl:=iat_lt hj
 show Same2 v c x (Option.bind (impl_Vol_inode (v,idS r,())) _) (Option.bind (spec_l7Node (v,idS r,())) _) _
 rw [impl_inode_some v _ hl hj,spec_Node_eq v _ hl hj]
 simp only [obs,List.isEmpty_cons,Bool.not_false,cond_true]
 rw [hq,rmI5]
 unfold impl_doer_remove_b5
 rw [rmI7,rmS7]
 show Same2 v c x (cond (kdC x==2) (cond (eqS (nameOf r) []) _ _) _) (cond (kdC x==2) (cond (eqS (nameOf r) []) _ _) _) _
 have hbare:nameOf r=[]→kindOf (gd tInode v.2.1 j)=2:=by
  intro h
  obtain ⟨j2,h1,h2⟩:=hr.bare hcode h
  rw [hj] at h1
  rw [osj h1];exact h2
 by_cases hrd:kdC x=2∧nameOf r=[]
 ·rw [beq_t hrd.1,nil_eqS.2 hrd.2]
  exact Same2.no 16 (by decide) rfl rfl
 have hfirst:∀ {α : Type} (a b : α),cond (kdC x==2) (cond (eqS (nameOf r) []) a b) b=b:=by
  intro α a b
  by_cases h2:kdC x=2
  ·rw [beq_t h2]
   have:eqS (nameOf r) []=false:=by
    rw [← Bool.not_eq_true,nil_eqS];exact fun h=>hrd ⟨h2,h⟩
   rw [this];rfl
  ·rw [beq_f h2];rfl
 rw [hfirst,hfirst]
 unfold impl_doer_remove_b7 spec_l7Remove_b7
 rw [rmI9,rmS9]
 show Same2 v c x (cond (kdC x==2) (cond (kindOf (gd tInode v.2.1 j) != 2) _ _) _) (cond (kdC x==2) (cond (kindOf (gd tInode v.2.1 j) != 2) _ _) _) _
 by_cases hnd:kdC x=2∧kindOf (gd tInode v.2.1 j)≠2
 ·rw [beq_t hnd.1,bne_t hnd.2]
  exact Same2.no 20 (by decide) rfl rfl
 have hsec:∀ {α : Type} (a b : α),cond (kdC x==2) (cond (kindOf (gd tInode v.2.1 j) != 2) a b) b=b:=by
  intro α a b
  by_cases h2:kdC x=2
  ·rw [beq_t h2,bne_f (Decidable.byContradiction fun h=>hnd ⟨h2,h⟩)];rfl
  ·rw [beq_f h2];rfl
 rw [hsec,hsec]
 unfold impl_doer_remove_b9 spec_l7Remove_b9
 rw [rmI11,rmS11]
 show Same2 v c x (cond (kdC x==8) (cond (kindOf (gd tInode v.2.1 j)==2) _ _) _) (cond (kdC x==8) (cond (kindOf (gd tInode v.2.1 j)==2) _ _) _) _
 by_cases hid:kdC x=8∧kindOf (gd tInode v.2.1 j)=2
 ·rw [beq_t hid.1,beq_t hid.2]
  exact Same2.no 21 (by decide) rfl rfl
 have hthi:∀ {α : Type} (a b : α),cond (kdC x==8) (cond (kindOf (gd tInode v.2.1 j)==2) a b) b=b:=by
  intro α a b
  by_cases h2:kdC x=8
  ·rw [beq_t h2,beq_f (fun h=>hid ⟨h2,h⟩)];rfl
  ·rw [beq_f h2];rfl
 rw [hthi,hthi]
 have hname:nameOf r≠[]:=by
  intro h
  rcases hk with h2 | h8
  ·exact hrd ⟨h2,h⟩
  ·exact hid ⟨h8,hbare h⟩
 obtain ⟨hid0,hnm,d,hd,hdk,hlook⟩:=hr.named hcode hname
 have hdl:=iat_lt hd
 have hino:=hv.ino d hdl.1
 unfold impl_doer_remove_b11 spec_l7Remove_b11
 show Same2 v c x (Option.bind (impl_doer_mayChange ((v,c,x,()),dirOf r,())) _) (Option.bind (spec_l7Node (v,dirOf r,())) _) _
 rw [may_impl v c x _ hl hc hd,spec_Node_eq v _ hl hd]
 simp only [obs]
 rw [spec_May_eq c _ 3 hc]
 simp only [obs]
 cases hm:may c (gd tInode v.2.1 d) 3 with
 | false=>exact Same2.no 13 (by decide) rfl rfl
 | true =>
 simp only [Bool.not_true,cond_false]
 show Same2 v c x (Option.bind (impl_Vol_inode (v,dirOf r,())) _) _ _
 rw [impl_inode_some v _ hl hd]
 simp only [obs,List.isEmpty_cons,Bool.not_false,cond_true]
 show Same2 v c x (Option.bind (impl_MayTake (c,gd tInode v.2.1 d,gd tInode v.2.1 j,())) _) _ _
 rw [impl_MayTake_eq c _ _ hc,spec_MayTake_eq c _ _ hc]
 simp only [obs]
 cases ht:mayTake c (gd tInode v.2.1 d) (gd tInode v.2.1 j) with
 | false=>exact Same2.no 1 (by decide) rfl rfl
 | true =>
 simp only [Bool.not_true,cond_false]
 show Same2 v c x (cond (kdC x==2) (cond (decide (((nmsOf (gd tInode v.2.1 j)).length:Int)>0)) _ _) _) (cond (decide (((nmsOf (gd tInode v.2.1 j)).length:Int)>0)) _ _) _
 rw [spec_Copy_eq v hl (fun i hi=>Nat.le_trans (nms_get hi) hwk.nms)]
 simp only [obs]
 show Same2 v c x (cond (kdC x==2) (cond (decide (((nmsOf (gd tInode v.2.1 j)).length:Int)>0)) (some (39,(v,c,x,()),())) (Option.bind (impl_doer_unname ((v,c,x,()),dirOf r,nameOf r,true,())) fun v4=>some (0,v4.1,()))) (Option.bind (impl_doer_unname ((v,c,x,()),dirOf r,nameOf r,true,())) fun v4=>some (0,v4.1,())))
  (cond (decide (((nmsOf (gd tInode v.2.1 j)).length:Int)>0)) (some (v,(39,[],()),())) (Option.bind (spec_l7Drop (v,dirOf r,nameOf r,())) fun v5=>some (v5.1,(0,[],()),()))) _
 rw [unname_eq v c x _ _ true hl hwk.nms hd,spec_Drop_eq v _ _ hl hwk.nms hd hino.sorted]
 simp only [obs,cond_true]
 by_cases h0:nmsOf (gd tInode v.2.1 j)=[]
 ·rw [h0,show decide ((([]:List tDirent.D).length:Int)>0)=false from rfl]
  have:Removed v c x (dropV v d (nameOf r)):=⟨r,d,j,hr,hcode,hname,hd,hdk,hlook,hj,h0,fun h=>Decidable.byContradiction fun h'=>hnd ⟨h,h'⟩,fun h h'=>hid ⟨h,h'⟩,rfl⟩
  refine⟨0,dropV v d (nameOf r),?_,rfl,fun _=>this⟩
  cases kdC x==2 <;> rfl
 ·have hlp:0<(nmsOf (gd tInode v.2.1 j)).length:=List.length_pos_iff.2 h0
  have hjk:kindOf (gd tInode v.2.1 j)=2:=Decidable.byContradiction fun h=>h0 ((hv.ino j hjl.1).plain h).2.2
  have hk2:kdC x=2:=by
   rcases hk with h | h
   ·exact h
   ·exact absurd ⟨h,hjk⟩ hid
  rw [decide_eq_true (by omega),beq_t hk2]
  exact Same2.no 39 (by decide) rfl rfl
def nameV(v:tVol.D)(i:Nat)(s:Txt)(id:Int):tVol.D:=(v.1,v.2.1.set i (setN (gd tInode v.2.1 i) (ins (nmsOf (gd tInode v.2.1 i)) s id)),())
structure Linked(v:tVol.D)(c:tCred.D)(x:tCall.D)(w:tVol.D):Prop where
 out:∃r t i j,SpotOk v.2.1 r∧codeS r=0∧iat v.2.1 (idS r)=some j∧kindOf (gd tInode v.2.1 j)≠2∧SpotOk v.2.1 t∧codeS t=2∧nameOf t≠[]∧iat v.2.1 (dirOf t)=some i∧kindOf (gd tInode v.2.1 i)=2 ∧
  (nmsOf (gd tInode v.2.1 i)).length<12∧w=nameV v i (nameOf t) (idS r)∧fitsN w.2.1=0
theorem nameV_st{v:tVol.D}(hv:VolR v){i:Nat}(hi:i<v.2.1.length)(hk:kindOf (gd tInode v.2.1 i)=2)(s:Txt){id:Int}(hid:(iat v.2.1 id).isSome=true):St 1000 (nameV v i s id).2.1:=by
 have:=hv.st.set (k:=1) (i:=i) (y:=setN (gd tInode v.2.1 i) (ins (nmsOf (gd tInode v.2.1 i)) s id)) hi rfl (by
  intro e he
  rcases mem_ins.1 he with he | rfl
  ·exact hv.exs i hi e he
  ·exact hid) (fun h=>absurd hk h) (by show(ins (nmsOf (gd tInode v.2.1 i)) s id).length≤_;rw [ins_len];omega) (Nat.le_add_right _ _)
 exact this.mono (by omega)
theorem link_both(v:tVol.D)(c:tCred.D)(x:tCall.D)(hv:VolR v)(hc:credOk c=true)(hx:CallR x):Same2 v c x (impl_doer_link ((v,c,x,()),())) (spec_l7Link (v,c,x,())) (Linked v c x):=by
 have hwk:=hv.wk'
 have hl:v.2.1.length≤1048576:=hwk.len
 have hp:=hx.path
 have hto:=hx.toL
 show Same2 v c x (impl_doer_link_s (v,c,x,())) (spec_l7Link_s v c x) _
 unfold impl_doer_link_s spec_l7Link_s
 obtain ⟨r,hr,hsI,hsS⟩:=spot_eq v c x (pathC x) false hwk hc (by omega)
 show Same2 v c x (Option.bind (impl_doer_spot ((v,c,x,()),pathC x,false,())) _) (Option.bind (spec_l7There (v,c,pathC x,false,())) _) _
 rw [hsI,hsS]
 simp only [obs]
 show Same2 v c x (cond (codeS r != 0) (some (codeS r,(v,c,x,()),())) _) (cond (codeS r != 0) (some (v,(codeS r,[],()),())) _) _
 by_cases hcode:codeS r=0
 case neg =>
  rw [bne_t hcode]
  exact Same2.no (codeS r) hcode rfl rfl
 rw [bne_f hcode]
 simp only [cond_false]
 obtain ⟨j,hj⟩:=hr.there hcode
 have hjl:=iat_lt hj
 show Same2 v c x (Option.bind (impl_Vol_isDir (v,idS r,())) _) (Option.bind (spec_l4Dir (v,idS r,())) _) _
 rw [impl_isDir_eq v _ hl,spec_Dir_eq v _ hl]
 simp only [obs]
 cases hdir:isDirI v.2.1 (idS r) with
 | true=>exact Same2.no 1 (by decide) rfl rfl
 | false =>
 simp only [cond_false]
 have hjk:kindOf (gd tInode v.2.1 j)≠2:=by
  unfold isDirI at hdir
  rw [hj] at hdir
  exact beq_eq_false_iff_ne.1 hdir
 obtain ⟨t,t',code,hnI,hnS,hn0⟩:=new_eq v c x (toC x) hwk hc (by omega)
 show Same2 v c x (Option.bind (impl_doer_isNew ((v,c,x,()),toC x,())) _) (Option.bind (spec_l7New (v,c,toC x,())) _) _
 rw [hnI,hnS]
 simp only [obs]
 by_cases hcode2:code=0
 case neg =>
  rw [bne_t hcode2]
  exact Same2.no code hcode2 rfl rfl
 obtain ⟨rfl,ht,ht2,htn⟩:=hn0 hcode2
 rw [bne_f hcode2]
 simp only [cond_false]
 obtain ⟨hid0,hnm,d,hd,hdk,hlook⟩:=ht.new ht2 htn
 have hdl:=iat_lt hd
 show Same2 v c x (Option.bind (impl_doer_mayChange ((v,c,x,()),dirOf t',())) _) (Option.bind (spec_l7Node (v,dirOf t',())) _) _
 rw [may_impl v c x _ hl hc hd,spec_Node_eq v _ hl hd]
 simp only [obs]
 rw [spec_May_eq c _ 3 hc]
 simp only [obs]
 cases hm:may c (gd tInode v.2.1 d) 3 with
 | false=>exact Same2.no 13 (by decide) rfl rfl
 | true =>
 simp only [Bool.not_true,cond_false]
 show Same2 v c x (Option.bind (impl_Vol_inode (v,dirOf t',())) _) _ _
 rw [impl_inode_some v _ hl hd]
 simp only [obs,List.isEmpty_cons,Bool.not_false,cond_true]
 have hino:=hv.ino d hdl.1
 have hn12:=(hino.dir hdk).2.2.2
 show Same2 v c x (cond (((nmsOf (gd tInode v.2.1 d)).length:Int)==12) _ _) (cond (decide (((nmsOf (gd tInode v.2.1 d)).length:Int)≥12)) _ _) _
 by_cases h12:(nmsOf (gd tInode v.2.1 d)).length=12
 ·rw [show(((nmsOf (gd tInode v.2.1 d)).length:Int)==12)=true by rw [h12];rfl,decide_eq_true (by omega)]
  exact Same2.no 28 (by decide) rfl rfl
 rw [show(((nmsOf (gd tInode v.2.1 d)).length:Int)==12)=false by rw [beq_eq_false_iff_ne];omega,decide_eq_false (show ¬((nmsOf (gd tInode v.2.1 d)).length:Int)≥12 by omega)]
 simp only [cond_false]
 rw [spec_Copy_eq v hl (fun i hi=>Nat.le_trans (nms_get hi) hwk.nms)]
 simp only [obs]
 have hnl:=Nat.le_trans (nms_get hdl.1) hwk.nms
 show Same2 v c x (Option.bind (impl_doer_name ((v,c,x,()),dirOf t',nameOf t',idS r,())) _) (Option.bind (spec_l7Add (v,dirOf t',nameOf t',idS r,())) _) _
 rw [name_eq v c x _ _ _ hl hd hnl,spec_Add_eq v _ _ _ hl hd hnl (look_zero hlook fun e he=>hv.name_pos hdl.1 he)]
 simp only [obs]
 show Same2 v c x (Option.bind (impl_doer_over ((nameV v d (nameOf t') (idS r),c,x,()),())) fun v7=>some (v7.1,(nameV v d (nameOf t') (idS r),c,x,()),())) (Option.bind (spec_l7Try (v,nameV v d (nameOf t') (idS r),())) fun v8=>some (v8.1,v8.2.1,())) _
 have hst:=nameV_st hv hdl.1 hdk (nameOf t') (id:=idS r) (by rw [hj];rfl)
 rw [over_eq _ c x hst (by omega),try_eq v _ hst (by omega)]
 exact⟨_,_,rfl,rfl,fun h=>⟨r,t',d,j,hr,hcode,hj,hjk,ht,ht2,htn,hd,hdk,by omega,rfl,h⟩⟩
def insideM(l:List Ino):Nat→Int→Int→Bool
 | 0,_,_=>false
 | k+1,id,top=>cond (id==top) true (cond (id==1) false (insideM l k (parOf l id) top))
theorem spec_Inside_eq(v:tVol.D)(id top:Int)(hl:v.2.1.length≤1048576)(hn:nmsN v.2.1≤1048576):spec_l7Inside (v,id,top,())=some (insideM v.2.1 (v.2.1.length+1) id top,()):=by
 show spec_l7Inside_s (spec_l7Inside_L2 BIG) v id top=_
 unfold spec_l7Inside_s
 have key:∀(r k m:Nat) (id:Int),k+r=v.2.1.length+1→r<m→spec_l7Inside_L2 m id top (k:Int) v=some (insideM v.2.1 r id top,()):=by
  intro r
  induction r with
  | zero =>
   intro k m id hk hm
   obtain ⟨m,rfl,_⟩:=fuel hm
   simp only [spec_l7Inside_L2,spec_l7Inside_b2]
   rw [decide_eq_false (by omega)];rfl
  | succ r ih =>
   intro k m id hk hm
   obtain ⟨m,rfl,hm'⟩:=fuel hm
   simp only [spec_l7Inside_L2,spec_l7Inside_b2]
   rw [decide_eq_true (show(k:Int)≤(v.2.1.length:Int) by omega),spec_Parent_eq v id hl hn,inc_i k (by omega)]
   simp only [cond_true,obs]
   rw [ih (k+1) m _ (by omega) (by omega),insideM]
   cases id==top <;> cases id==1 <;> rfl
 exact key (v.2.1.length+1) 0 BIG id (by omega) (big_gt (by omega))
theorem sum_zero{α : Type}{f : α → Nat} : ∀ {l:List α},(∀x,x∈l→f x=0)→(l.map f).sum=0
 | [],_=>rfl
 | x :: l,h=>by
  simp only [List.map_cons,List.sum_cons]
  rw [h x List.mem_cons_self,sum_zero fun y hy=>h y (List.mem_cons_of_mem _ hy)]
def up(l:List Ino):Nat→Int→Int
 | 0,d=>d
 | k+1,d=>up l k (parOf l d)
theorem sum_two{α : Type}(f : α → Nat):∀(l:List α) (i j:Nat) (hi:i<l.length) (hj:j<l.length),i<j→f l[i]+f l[j]≤(l.map f).sum
 | [],_,_,hi,_,_=>by simp at hi
 | x :: l,i,j+1,hi,hj,hij=>by
  cases i with
  | zero =>
   simp only [List.getElem_cons_zero,List.getElem_cons_succ,List.map_cons,List.sum_cons]
   have:=le_sum (f:=f) (List.getElem_mem (l:=l) (by simpa using hj:j<l.length))
   omega
  | succ i =>
   simp only [List.getElem_cons_succ,List.map_cons,List.sum_cons]
   have:=sum_two f l i j (by simpa using hi) (by simpa using hj) (by omega)
   omega
theorem hasId_cnt{N:List tDirent.D}{id:Int} : hasId N id=true↔0<cntId N id:=by
 constructor
 ·intro h
  obtain ⟨j,h1,h2,_⟩:=hasId_t h
  unfold idP at h2
  exact List.length_pos_of_mem (List.mem_filter.2 ⟨gd_mem' h1,h2⟩)
 ·intro h
  obtain ⟨d,hd⟩:=List.exists_mem_of_length_pos h
  obtain ⟨h1,h2⟩:=List.mem_filter.1 hd
  obtain ⟨i,hi,he⟩:=mem_gd h1
  cases hb:hasId N id with
  | true=>rfl
  | false =>
   have:=hasId_f hb i hi
   unfold idP at this
   rw [he,h2] at this;cases this
theorem par_of{l:List Ino}(hd:Dist l){b d:Int}(h1:namedN l d=1)(h:E l b d):parOf l d=b:=by
 obtain ⟨i,e,hi,he,rfl⟩:=h
 obtain ⟨hil,hib⟩:=iat_lt hi
 have hci:0<cntId (nmsOf (gd tInode l i)) e.2.1:=List.length_pos_of_mem (List.mem_filter.2 ⟨he,by simp⟩)
 unfold parOf
 cases hp:parI l e.2.1 with
 | none =>
  have:=fnd_none.1 hp i hil
  rw [hasId_cnt.2 hci] at this;cases this
 | some j =>
  obtain ⟨hj,hjh,_⟩:=fnd_some.1 hp
  have hcj:=hasId_cnt.1 hjh
  have:j=i:=by
   refine Decidable.byContradiction fun hne=>?_
   rcases Nat.lt_or_gt_of_ne hne with h | h
   ·have:=sum_two (fun x=>cntId (nmsOf x) e.2.1) l j i hj hil h
    rw [gd_eq hj] at hcj
    rw [gd_eq hil] at hci
    unfold namedN at h1
    have h2:cntId (nmsOf l[j]) e.2.1+cntId (nmsOf l[i]) e.2.1≤(l.map fun x=>cntId (nmsOf x) e.2.1).sum:=this
    omega
   ·have:=sum_two (fun x=>cntId (nmsOf x) e.2.1) l i j hil hj h
    rw [gd_eq hj] at hcj
    rw [gd_eq hil] at hci
    unfold namedN at h1
    have h2:cntId (nmsOf l[i]) e.2.1+cntId (nmsOf l[j]) e.2.1≤(l.map fun x=>cntId (nmsOf x) e.2.1).sum:=this
    omega
  subst this
  exact hib
theorem VolR.no_root{v:tVol.D}(h:VolR v){a:Int} : ¬Bel v.2.1 a 1:=by
 intro hb
 have hE:∀b,¬E v.2.1 b 1:=by
  rintro b ⟨i,d,hi,hd,he⟩
  exact((h.ino i (iat_lt hi).1).names d hd).2.1 he
 cases hb with
 | single h=>exact hE _ h
 | tail _ h=>exact hE _ h
theorem VolR.E_ne{v:tVol.D}(h:VolR v){b d:Int}(he:E v.2.1 b d):d≠1:=by
 rintro rfl
 exact h.no_root (.single he)
theorem VolR.once'{v:tVol.D}(h:VolR v){d:Int}(hd:IsD v.2.1 d)(h1:d≠1):namedN v.2.1 d=1:=by
 obtain ⟨i,hi,hk⟩:=hd
 obtain ⟨hil,hid⟩:=iat_lt hi
 have:=h.once i (by
  rcases Nat.eq_zero_or_pos i with h0 | h0
  ·subst h0
   exact absurd ((show(gd tInode v.2.1 0).1=1 from h.root.1).symm.trans hid).symm h1
  ·exact h0) hil hk
 rwa [hid] at this
theorem VolR.E_dir{v:tVol.D}(h:VolR v){b d:Int}(he:E v.2.1 b d):IsD v.2.1 b:=by
 obtain ⟨i,e,hi,hm,_⟩:=he
 refine⟨i,hi,Decidable.byContradiction fun hk=>?_⟩
 rw [((h.ino i (iat_lt hi).1).plain hk).2.2] at hm
 simp at hm
theorem VolR.bel_up{v:tVol.D}(h:VolR v){a d:Int}(hd:IsD v.2.1 d)(h1:d≠1):Bel v.2.1 a d↔a=parOf v.2.1 d∨Bel v.2.1 a (parOf v.2.1 d):=by
 have ho:=h.once' hd h1
 constructor
 ·intro hb
  cases hb with
  | single he=>exact .inl (par_of h.dist ho he).symm
  | tail hb he=>rw [par_of h.dist ho he];exact .inr hb
 ·intro hb
  have hE:E v.2.1 (parOf v.2.1 d) d:=by
   cases hp:parI v.2.1 d with
   | none =>
    exfalso
    have h0:=fnd_none.1 hp
    have:namedN v.2.1 d=0:=by
     unfold namedN
     refine sum_zero fun x hx=>?_
     obtain ⟨i,hi,hg⟩:=mem_gd hx
     have:=h0 i hi
     rw [hg] at this
     refine Decidable.byContradiction fun hc=>?_
     rw [hasId_cnt.2 (by omega)] at this;cases this
    omega
   | some i =>
    obtain ⟨hi,hh,_⟩:=fnd_some.1 hp
    obtain ⟨j,hj,hjd,_⟩:=hasId_t hh
    unfold parOf
    rw [hp]
    exact⟨i,gd tDirent (nmsOf (gd tInode v.2.1 i)) j,h.dist i hi,gd_mem' hj,by unfold idP at hjd;simpa using hjd⟩
  rcases hb with rfl | hb
  ·exact .single hE
  ·exact .tail hb hE
theorem inside_up{v:tVol.D}(h:VolR v)(top:Int):∀(n k:Nat) (d:Int),IsD v.2.1 d→up v.2.1 n d=1→n<k→(insideM v.2.1 k d top=true↔d=top∨Bel v.2.1 top d):=by
 intro n
 induction n with
 | zero =>
  intro k d hd hu hk
  obtain ⟨k,rfl,_⟩:=fuel hk
  have hu:d=1:=hu
  subst hu
  rw [insideM]
  by_cases h1:(1:Int)=top
  ·rw [beq_t h1];exact⟨fun _=>.inl h1,fun _=>rfl⟩
  ·rw [beq_f h1]
   exact⟨fun h=>(by cases h),fun h'=>h'.elim (fun h=>absurd h h1) fun hb=>absurd hb h.no_root⟩
 | succ n ih =>
  intro k d hd hu hk
  obtain ⟨k,rfl,hk'⟩:=fuel hk
  rw [insideM]
  by_cases h1:d=top
  ·rw [beq_t h1];exact⟨fun _=>.inl h1,fun _=>rfl⟩
  ·rw [beq_f h1]
   by_cases h2:d=1
   ·rw [beq_t h2]
    subst h2
    exact⟨fun h=>(by cases h),fun h'=>h'.elim (fun h=>absurd h h1) fun hb=>absurd hb h.no_root⟩
   ·rw [beq_f h2]
    simp only [cond_false]
    rw [ih k (parOf v.2.1 d) (parOf_dir h.wk' _) hu (by omega),h.bel_up hd h2]
    constructor
    ·rintro (h | h)
     ·exact .inr (.inl h.symm)
     ·exact .inr (.inr h)
    ·rintro (h | h | h)
     ·exact absurd h h1
     ·exact .inl h.symm
     ·exact .inr h
theorem up_add(l:List Ino)(a:Nat):∀(b:Nat) (d:Int),up l (a+b) d=up l a (up l b d)
 | 0,_=>rfl
 | b+1,d=>up_add l a b (parOf l d)
theorem VolR.top_of{v:tVol.D}(h:VolR v){d:Int}(hd:IsD v.2.1 d):∃n,up v.2.1 n d=1:=by
 obtain ⟨i,hi,hk⟩:=hd
 obtain ⟨hil,hid⟩:=iat_lt hi
 rcases Nat.eq_zero_or_pos i with h0 | h0
 ·subst h0
  exact⟨0,hid.symm.trans (show(gd tInode v.2.1 0).1=1 from h.root.1)⟩
 ·have hb:=h.reach i h0 hil
  rw [hid] at hb
  have key:∀d,Bel v.2.1 1 d→IsD v.2.1 d→∃n,up v.2.1 n d=1:=by
   intro d hb
   induction hb with
   | single he =>
    intro hd
    have h1:=h.E_ne he
    exact⟨1,par_of h.dist (h.once' hd h1) he⟩
   | tail hb he ih =>
    intro hd
    have h1:=h.E_ne he
    obtain ⟨n,hn⟩:=ih (h.E_dir he)
    exact⟨n+1,by show up v.2.1 n (parOf v.2.1 _)=1;rw [par_of h.dist (h.once' hd h1) he];exact hn⟩
  exact key d hb ⟨i,hi,hk⟩
theorem least{P:Nat→Prop} : ∀n,P n→∃m,P m∧∀k,k<m→¬P k:=by
 intro n
 induction n using Nat.strongRecOn with
 | _ n ih =>
  intro hn
  by_cases h:∃k,k<n∧P k
  ·obtain ⟨k,hk,hp⟩:=h
   exact ih k hk hp
  ·exact⟨n,hn,fun k hk hp=>h ⟨k,hk,hp⟩⟩
theorem up_dir{v:tVol.D}(h:VolR v):∀(n:Nat) {d:Int},IsD v.2.1 d→IsD v.2.1 (up v.2.1 n d)
 | 0,_,hd=>hd
 | n+1,d,_=>up_dir h n (parOf_dir h.wk' d)
theorem VolR.top_near{v:tVol.D}(h:VolR v){d:Int}(hd:IsD v.2.1 d):∃n,n<v.2.1.length∧up v.2.1 n d=1:=by
 obtain ⟨n0,h0⟩:=h.top_of hd
 obtain ⟨n,hn,hmin⟩:=least (P:=fun n=>up v.2.1 n d=1) n0 h0
 refine⟨n,?_,hn⟩
 have hnd:((List.range (n+1)).map fun i=>up v.2.1 i d).Nodup:=by
  unfold List.Nodup
  rw [List.pairwise_iff_getElem]
  intro i j hi hj hij he
  simp only [List.length_map,List.length_range] at hi hj
  simp only [List.getElem_map,List.getElem_range] at he
  refine hmin (n-(j-i)) (by omega) ?_
  show up v.2.1 (n-(j-i)) d=1
  rw [show n-(j-i)=(n-j)+i by omega,up_add,he,← up_add,show n-j+j=n by omega]
  exact hn
 have hsub:((List.range (n+1)).map fun i=>up v.2.1 i d)⊆v.2.1.map fun x=>x.1:=by
  intro a ha
  obtain ⟨i,_,rfl⟩:=List.mem_map.1 ha
  obtain ⟨j,hj,_⟩:=up_dir h i hd
  obtain ⟨h1,h2⟩:=iat_lt hj
  exact List.mem_map.2 ⟨_,gd_mem' h1,h2⟩
 have:=hnd.length_le_of_subset hsub
 simp only [List.length_map,List.length_range] at this
 omega
theorem inside_bel{v:tVol.D}(h:VolR v){d:Int}(hd:IsD v.2.1 d)(top:Int):insideM v.2.1 (v.2.1.length+1) d top=true↔d=top∨Bel v.2.1 top d:=by
 obtain ⟨n,h1,h2⟩:=h.top_near hd
 exact inside_up h top n _ d hd h2 (by omega)
theorem tw_filter{N:List tDirent.D}(t:Txt)(h:Sorted N):N.takeWhile (ltP t)=N.filter (ltP t)∧N.dropWhile (ltP t)=N.filter fun d => !ltP t d:=by
 induction N with
 | nil=>exact⟨rfl,rfl⟩
 | cons d r ih =>
  obtain ⟨h1,h2⟩:=List.pairwise_cons.1 h
  obtain ⟨i1,i2⟩:=ih h2
  rw [List.takeWhile_cons,List.dropWhile_cons,List.filter_cons,List.filter_cons]
  cases hd:ltP t d with
  | true=>simp [i1,i2]
  | false =>
   have hno:∀e,e∈r→ltP t e=false:=by
    intro e he
    have h3:=h1 e he
    cases hk:ltP t e with
    | false=>rfl
    | true =>
     have:=lt_trans' h3 hk
     unfold ltP at hd
     rw [hd] at this;cases this
   have f1:r.filter (ltP t)=[]:=List.filter_eq_nil_iff.2 fun e he=>by rw [hno e he];simp
   have f2:(r.filter fun d => !ltP t d)=r:=List.filter_eq_self.2 fun e he=>by rw [hno e he];rfl
   simp [f1,f2]
theorem un_sorted{N:List tDirent.D}(h:Sorted N)(s:Txt):Sorted (unN N s):=List.Pairwise.sublist List.filter_sublist h
theorem un_ins{N:List tDirent.D}(h:Sorted N){r t:Txt}{id:Int}(hne:t≠r):unN (ins N t id) r=ins (unN N r) t id:=by
 unfold ins
 rw [(tw_filter t h).1,(tw_filter t h).2,(tw_filter t (un_sorted h r)).1,(tw_filter t (un_sorted h r)).2]
 unfold unN
 rw [List.filter_append,List.filter_append,List.filter_cons,List.filter_nil,List.filter_filter,List.filter_filter,List.filter_filter,List.filter_filter]
 have:eqS t r=false:=by unfold eqS;simpa using hne
 rw [this]
 simp only [Bool.not_false,if_true]
 congr 1
 ·congr 1
  exact List.filter_congr fun d _=>Bool.and_comm _ _
 ·exact List.filter_congr fun d _=>Bool.and_comm _ _
theorem ins_sorted{N:List tDirent.D}(h:Sorted N){t:Txt}{id:Int}(hn:∀d,d∈N→d.1≠t):Sorted (ins N t id):=by
 unfold ins
 rw [(tw_filter t h).1,(tw_filter t h).2]
 unfold Sorted
 rw [List.append_assoc,List.pairwise_append]
 refine⟨List.Pairwise.sublist List.filter_sublist h,?_,fun a ha b hb=>?_⟩
 ·rw [List.singleton_append,List.pairwise_cons]
  refine⟨fun b hb=>?_,List.Pairwise.sublist List.filter_sublist h⟩
  obtain ⟨h1,h2⟩:=List.mem_filter.1 hb
  unfold ltP at h2
  rw [lt_turn (hn b h1)]
  exact h2
 ·obtain ⟨h1,h2⟩:=List.mem_filter.1 ha
  have h2:ltS a.1 t=true:=h2
  rcases List.mem_append.1 hb with hb | hb
  ·simp only [List.mem_singleton] at hb
   subst hb;exact h2
  ·obtain ⟨h3,h4⟩:=List.mem_filter.1 hb
   unfold ltP at h4
   refine lt_trans' h2 ?_
   rw [lt_turn (hn b h3)]
   exact h4
theorem look_mem{N:List tDirent.D}(h:Sorted N){d:tDirent.D}(hd:d∈N):lookN N d.1=d.2.1:=by
 rw [look_eq]
 induction N with
 | nil=>simp at hd
 | cons e r ih =>
  obtain ⟨h1,h2⟩:=List.pairwise_cons.1 h
  rw [lookL]
  rcases List.mem_cons.1 hd with rfl | hd
  ·have:eqS d.1 d.1=true:=by unfold eqS;simp
   rw [this];rfl
  ·have:eqS e.1 d.1=false:=by unfold eqS;simpa using lt_ne (h1 d hd)
   rw [this]
   exact ih h2 hd
theorem un_no{N:List tDirent.D}{s:Txt} : ∀d,d∈unN N s→d.1≠s:=by
 intro d hd
 have:=(List.mem_filter.1 hd).2
 unfold eqS at this
 simpa using this
theorem un_mem{N:List tDirent.D}{s:Txt}{d:tDirent.D}(h:d∈unN N s):d∈N:=(List.mem_filter.1 h).1
def unL(l:List Ino)(ir:Nat)(rn:Txt):List Ino:=l.set ir (setN (gd tInode l ir) (unN (nmsOf (gd tInode l ir)) rn))
def inL'(l:List Ino)(it:Nat)(tn:Txt)(rid:Int):List Ino:=l.set it (setN (gd tInode l it) (ins (nmsOf (gd tInode l it)) tn rid))
def movL(l:List Ino)(ir:Nat)(rn:Txt)(it:Nat)(tn:Txt)(rid:Int):List Ino:=inL' (unL l ir rn) it tn rid
structure MovPre(l:List Ino)(rd td:Int)(ir it:Nat)(rn tn:Txt)(rid:Int):Prop where
 st:St 1000 l
 hr:iat l rd=some ir
 ht:iat l td=some it
 kr:kindOf (gd tInode l ir)=2
 kt:kindOf (gd tInode l it)=2
 sr:Sorted (nmsOf (gd tInode l ir))
 st':Sorted (nmsOf (gd tInode l it))
 look:lookN (nmsOf (gd tInode l ir)) rn=rid
 rid0:rid≠0
 ex:(iat l rid).isSome=true
 no:∀d,d∈nmsOf (gd tInode l it)→d.1≠tn
 ne:ir=it→rn≠tn
theorem setN_id(x:Ino)(N:List tDirent.D):(setN x N).1=x.1:=rfl
theorem iat_setN{l:List Ino}{i:Nat}(N:List tDirent.D)(hi:i<l.length)(id:Int):iat (l.set i (setN (gd tInode l i) N)) id=iat l id:=iat_set hi (setN_id _ N) id
theorem iat_unL{l:List Ino}{ir:Nat}{rn:Txt}(hi:ir<l.length)(id:Int):iat (unL l ir rn) id=iat l id:=iat_setN _ hi id
theorem iat_inL{l:List Ino}{it:Nat}{tn:Txt}{rid:Int}(hi:it<l.length)(id:Int):iat (inL' l it tn rid) id=iat l id:=iat_setN _ hi id
theorem mov_comm{l:List Ino}{rd td:Int}{ir it:Nat}{rn tn:Txt}{rid:Int}(h:MovPre l rd td ir it rn tn rid):unL (inL' l it tn rid) ir rn=movL l ir rn it tn rid:=by
 have hr:=(iat_lt h.hr).1
 have ht:=(iat_lt h.ht).1
 unfold movL unL inL'
 rw [gd_set ht,gd_set hr]
 by_cases he:it=ir
 ·subst he
  rw [if_pos rfl,if_pos rfl,List.set_set,List.set_set,nms_setN,nms_setN,un_ins h.sr (fun e=>h.ne rfl e.symm)]
  rfl
 ·rw [if_neg he,if_neg (fun e=>he e.symm),List.set_comm _ _ he]
theorem mov_st{l:List Ino}{rd td:Int}{ir it:Nat}{rn tn:Txt}{rid:Int}(h:MovPre l rd td ir it rn tn rid):St 1001 (unL l ir rn)∧St 1003 (movL l ir rn it tn rid):=by
 have hr:=(iat_lt h.hr).1
 have ht:=(iat_lt h.ht).1
 have h1:St 1001 (unL l ir rn):=h.st.set (k:=1) hr rfl (fun d hd=>h.st.exs ir hr d (un_mem hd)) (fun hk=>absurd h.kr hk) (Nat.le_trans (un_len _ _) (by omega)) (Nat.le_add_right _ _)
 have hg:kindOf (gd tInode (unL l ir rn) it)=2∧(gd tInode (unL l ir rn) it).1=td:=by
  unfold unL
  rw [gd_set hr]
  split
  ·rename_i he;exact⟨h.kr,by show(gd tInode l ir).1=td;rw [he];exact(iat_lt h.ht).2⟩
  ·exact⟨h.kt,(iat_lt h.ht).2⟩
 have hex:∀id,(iat (unL l ir rn) id).isSome=(iat l id).isSome:=fun id=>by rw [iat_unL hr]
 refine⟨h1,(h1.set (k:=1) (i:=it) (y:=setN (gd tInode (unL l ir rn) it) (ins (nmsOf (gd tInode (unL l ir rn) it)) tn rid)) (by unfold unL;rw [List.length_set];exact ht) rfl (fun d hd=>?_) (fun hk=>absurd hg.1 hk) (by rw [nms_setN,ins_len];omega) (Nat.le_add_right _ _)).mono (by omega)⟩
 rcases mem_ins.1 hd with hd | rfl
 ·exact h1.exs it (by unfold unL;rw [List.length_set];exact ht) d hd
 ·rw [hex];exact h.ex
theorem rnI25(m:Nat)(a b d):(impl_doer_rename_L (m+1)).k25 a b d=impl_doer_rename_b25 (impl_doer_rename_L m) a b d:=rfl
theorem rnI16(m:Nat)(a b d e):(impl_doer_rename_L (m+1)).k16 a b d e=impl_doer_rename_b16 (impl_doer_rename_L m) a b d e:=rfl
theorem rnI10(m:Nat)(a b d e):(impl_doer_rename_L (m+1)).k10 a b d e=impl_doer_rename_b10 (impl_doer_rename_L m) a b d e:=rfl
theorem rnI7(m:Nat)(a b d):(impl_doer_rename_L (m+1)).k7 a b d=impl_doer_rename_b7 (impl_doer_rename_L m) a b d:=rfl
theorem rnS34(m:Nat)(a b d e f g):(spec_l7Rename_L (m+1)).k34 a b d e f g=spec_l7Rename_b34 (spec_l7Rename_L m) a b d e f g:=rfl
theorem rnS29(m:Nat)(a b d e f g h i):(spec_l7Rename_L (m+1)).k29 a b d e f g h i=spec_l7Rename_b29 (spec_l7Rename_L m) a b d e f g h i:=rfl
theorem rnS27(m:Nat)(a b d e f g h i):(spec_l7Rename_L (m+1)).k27 a b d e f g h i=spec_l7Rename_b27 (spec_l7Rename_L m) a b d e f g h i:=rfl
theorem rnS18(m:Nat)(a b d e f g h i):(spec_l7Rename_L (m+1)).k18 a b d e f g h i=spec_l7Rename_b18 (spec_l7Rename_L m) a b d e f g h i:=rfl
theorem rnS7(m:Nat)(a b d e f g):(spec_l7Rename_L (m+1)).k7 a b d e f g=spec_l7Rename_b7 (spec_l7Rename_L m) a b d e f g:=rfl
theorem mov_impl{n:Int}{l:List Ino}(c:tCred.D)(x:tCall.D)(r t:tSpot.D){ir it:Nat}(h:MovPre l (dirOf r) (dirOf t) ir it (nameOf r) (nameOf t) (idS r))(m:Nat) :
  (impl_doer_rename_L (m+1)).k25 ((n,l,()),c,x,()) r t=some (fitsN (movL l ir (nameOf r) it (nameOf t) (idS r)),((n,movL l ir (nameOf r) it (nameOf t) (idS r),()),c,x,()),()):=by
 have hr:=(iat_lt h.hr).1
 have ht:=(iat_lt h.ht).1
 obtain ⟨s1,s2⟩:=mov_st h
 have b1:=h.st.len
 have b2:=h.st.nms
 have b3:=s1.len
 have b4:=s1.nms
 rw [rnI25]
 unfold impl_doer_rename_b25
 show Option.bind (impl_doer_unname (((n,l,()),c,x,()),dirOf r,nameOf r,false,())) _=_
 rw [unname_eq (n,l,()) c x _ _ false (show l.length≤1048576 by omega) (show nmsN l≤1048576 by omega) h.hr]
 simp only [obs,cond_false]
 show Option.bind (impl_doer_name (((n,unL l ir (nameOf r),()),c,x,()),dirOf t,nameOf t,idS r,())) _=_
 have hit:iat (unL l ir (nameOf r)) (dirOf t)=some it:=by rw [iat_unL hr];exact h.ht
 rw [name_eq (n,unL l ir (nameOf r),()) c x _ _ _ (show(unL l ir (nameOf r)).length≤1048576 by omega) hit (by
  have:=nms_get (l:=unL l ir (nameOf r)) (i:=it) (iat_lt hit).1
  show(nmsOf (gd tInode (unL l ir (nameOf r)) it)).length≤_
  omega)]
 simp only [obs]
 show Option.bind (impl_doer_over (((n,movL l ir (nameOf r) it (nameOf t) (idS r),()),c,x,()),())) (fun v3=>some (v3.1,((n,movL l ir (nameOf r) it (nameOf t) (idS r),()),c,x,()),()))=_
 rw [over_eq (n,movL l ir (nameOf r) it (nameOf t) (idS r),()) c x s2 (by omega)];rfl
theorem mov_spec{n:Int}{l:List Ino}(v:tVol.D)(z:tVol.D)(z':tResult.D)(r t:tSpot.D){ir it:Nat}(h:MovPre l (dirOf r) (dirOf t) ir it (nameOf r) (nameOf t) (idS r))(m:Nat) :
  (spec_l7Rename_L (m+1)).k34 v z z' r t (n,l,())=some (cond (fitsN (movL l ir (nameOf r) it (nameOf t) (idS r))==0) (n,movL l ir (nameOf r) it (nameOf t) (idS r),()) v,(fitsN (movL l ir (nameOf r) it (nameOf t) (idS r)),[],()),()):=by
 have hr:=(iat_lt h.hr).1
 have ht:=(iat_lt h.ht).1
 obtain ⟨s1,s2⟩:=mov_st h
 have b1:=h.st.len
 have b2:=h.st.nms
 have b3:=nms_get ht
 rw [rnS34]
 unfold spec_l7Rename_b34
 show Option.bind (spec_l7Add ((n,l,()),dirOf t,nameOf t,idS r,())) _=_
 rw [spec_Add_eq (n,l,()) _ _ _ (show l.length≤1048576 by omega) h.ht (show(nmsOf (gd tInode l it)).length≤1048576 by omega) h.no]
 simp only [obs]
 show Option.bind (spec_l7Drop ((n,inL' l it (nameOf t) (idS r),()),dirOf r,nameOf r,())) _=_
 have hgr:gd tInode (inL' l it (nameOf t) (idS r)) ir=if it=ir then setN (gd tInode l it) (ins (nmsOf (gd tInode l it)) (nameOf t) (idS r)) else gd tInode l ir:=by unfold inL';rw [gd_set ht]
 have hso:Sorted (nmsOf (gd tInode (inL' l it (nameOf t) (idS r)) ir)):=by
  rw [hgr]
  split
  ·rw [nms_setN];exact ins_sorted h.st' h.no
  ·exact h.sr
 have hil:iat (inL' l it (nameOf t) (idS r)) (dirOf r)=some ir:=by rw [iat_inL ht];exact h.hr
 have hll:(inL' l it (nameOf t) (idS r)).length≤1048576:=by unfold inL';rw [List.length_set];omega
 have hln:nmsN (inL' l it (nameOf t) (idS r))≤1048576:=by
  have:=nmsN_set (l:=l) (y:=setN (gd tInode l it) (ins (nmsOf (gd tInode l it)) (nameOf t) (idS r))) ht
  rw [nms_setN,ins_len] at this
  unfold inL';omega
 rw [spec_Drop_eq (n,inL' l it (nameOf t) (idS r),()) _ _ hll hln hil hso]
 have hlook:lookN (nmsOf (gd tInode (inL' l it (nameOf t) (idS r)) ir)) (nameOf r)=idS r:=by
  obtain ⟨e,he,he1,he2⟩:=lookN_mem (N:=nmsOf (gd tInode l ir)) (s:=nameOf r) (by rw [h.look];exact h.rid0)
  have hme:e∈nmsOf (gd tInode (inL' l it (nameOf t) (idS r)) ir):=by
   rw [hgr]
   split
   ·rename_i hh;rw [nms_setN,hh];exact mem_ins.2 (.inl he)
   ·exact he
  have:=look_mem hso hme
  rw [he1,he2,h.look] at this
  exact this
 rw [show((n,inL' l it (nameOf t) (idS r),()):tVol.D).2.1=inL' l it (nameOf t) (idS r) from rfl,hlook]
 have hgo:goN ((inL' l it (nameOf t) (idS r)).set ir (setN (gd tInode (inL' l it (nameOf t) (idS r)) ir) (unN (nmsOf (gd tInode (inL' l it (nameOf t) (idS r)) ir)) (nameOf r)))) (idS r)=movL l ir (nameOf r) it (nameOf t) (idS r):=by
  have hc:=mov_comm h
  unfold unL at hc
  rw [hc]
  unfold goN
  rw [decide_eq_false];rfl
  intro h0
  have hl2:it<(unL l ir (nameOf r)).length:=by unfold unL;rw [List.length_set];exact ht
  have hmem:gd tInode (movL l ir (nameOf r) it (nameOf t) (idS r)) it∈movL l ir (nameOf r) it (nameOf t) (idS r):=gd_mem' (by unfold movL inL';rw [List.length_set];exact hl2)
  refine named_zero h0 _ hmem (nameOf t,idS r,()) ?_ rfl
  unfold movL inL'
  rw [gd_set hl2,if_pos rfl,nms_setN]
  exact mem_ins.2 (.inr rfl)
 rw [hgo]
 simp only [obs]
 show Option.bind (spec_l7Try (v,(n,movL l ir (nameOf r) it (nameOf t) (idS r),()),())) _=_
 rw [try_eq v (n,movL l ir (nameOf r) it (nameOf t) (idS r),()) s2 (by omega)];rfl
def takesN(c:tCred.D)(d n m:Ino):Int :=
 cond (!mayTake c d m) 1 (cond (kindOf n==2) (cond (kindOf m != 2) 20 (cond (decide (((nmsOf m).length:Int)>0)) 39 0)) (cond (kindOf m==2) 21 0))
theorem takes_eq(v:tVol.D)(c:tCred.D)(x:tCall.D)(n:Ino)(t:tSpot.D)(hl:v.2.1.length≤1048576)(hc:credOk c=true){i j:Nat}(hi:iat v.2.1 (dirOf t)=some i)(hj:iat v.2.1 (idS t)=some j) :
  impl_doer_takes ((v,c,x,()),n,t,())=some (takesN c (gd tInode v.2.1 i) n (gd tInode v.2.1 j),()):=by
 show impl_doer_takes_s (v,c,x,()) n t=_
 unfold impl_doer_takes_s takesN
 rw [dup_eq]
 show Option.bind (impl_Vol_inode (v,idS t,())) _=_
 rw [impl_inode_some v _ hl hj]
 simp only [obs,List.isEmpty_cons,Bool.not_false,cond_true]
 show Option.bind (impl_Vol_inode (v,dirOf t,())) _=_
 rw [impl_inode_some v _ hl hi]
 simp only [obs,List.isEmpty_cons,Bool.not_false,cond_true]
 show Option.bind (impl_MayTake (c,gd tInode v.2.1 i,gd tInode v.2.1 j,())) _=_
 rw [impl_MayTake_eq c _ _ hc]
 simp only [obs]
 show cond (!mayTake c (gd tInode v.2.1 i) (gd tInode v.2.1 j)) _ (cond (kindOf n==2) (cond (!(kindOf (gd tInode v.2.1 j)==2)) _ (cond (kindOf n==2) (cond (decide (((nmsOf (gd tInode v.2.1 j)).length:Int)>0)) _ (cond (!(kindOf n==2)) (cond (kindOf (gd tInode v.2.1 j)==2) _ _) _)) _)) (cond (kindOf n==2) _ (cond (!(kindOf n==2)) (cond (kindOf (gd tInode v.2.1 j)==2) _ _) _)))=_
 unfold bne
 cases mayTake c (gd tInode v.2.1 i) (gd tInode v.2.1 j) <;> cases kindOf n==2 <;> cases kindOf (gd tInode v.2.1 j)==2 <;> cases decide (((nmsOf (gd tInode v.2.1 j)).length:Int)>0) <;> rfl
structure Moved(v:tVol.D)(c:tCred.D)(x:tCall.D)(w:tVol.D):Prop where
 out:∃r t j,SpotOk v.2.1 r∧codeS r=0∧nameOf r≠[]∧iat v.2.1 (idS r)=some j∧SpotOk v.2.1 t∧nameOf t≠[]∧(codeS t=0∨codeS t=2) ∧
  (idS t=idS r∧w=v∨idS t≠idS r∧(kindOf (gd tInode v.2.1 j)=2→dirOf t≠idS r∧¬Bel v.2.1 (idS r) (dirOf t)) ∧
   ∃l ir it,MovPre l (dirOf r) (dirOf t) ir it (nameOf r) (nameOf t) (idS r)∧w=(v.1,movL l ir (nameOf r) it (nameOf t) (idS r),())∧fitsN w.2.1=0 ∧
    ((idS t=0∧l=v.2.1∧(dirOf r≠dirOf t→(nmsOf (gd tInode l it)).length<12)) ∨
     (∃i2 j2,iat v.2.1 (dirOf t)=some i2∧kindOf (gd tInode v.2.1 i2)=2∧iat v.2.1 (idS t)=some j2∧nmsOf (gd tInode v.2.1 j2)=[]∧lookN (nmsOf (gd tInode v.2.1 i2)) (nameOf t)=idS t∧(kindOf (gd tInode v.2.1 j)=2↔kindOf (gd tInode v.2.1 j2)=2)∧l=(dropV v i2 (nameOf t)).2.1)))
theorem drop_mem{v:tVol.D}(hv:VolR v){i2:Nat}(hi:i2<v.2.1.length)(hk:kindOf (gd tInode v.2.1 i2)=2)(s:Txt):St 1000 (dropV v i2 s).2.1 ∧
  ∀id,id≠lookN (nmsOf (gd tInode v.2.1 i2)) s→∀k,iat v.2.1 id=some k→∃k',iat (dropV v i2 s).2.1 id=some k'∧gd tInode (dropV v i2 s).2.1 k'=if i2=k then setN (gd tInode v.2.1 i2) (unN (nmsOf (gd tInode v.2.1 i2)) s) else gd tInode v.2.1 k:=by
 have hs1:St 1000 (v.2.1.set i2 (setN (gd tInode v.2.1 i2) (unN (nmsOf (gd tInode v.2.1 i2)) s))):=(hv.st.set (k:=0) (y:=setN (gd tInode v.2.1 i2) (unN (nmsOf (gd tInode v.2.1 i2)) s)) hi rfl (fun d hd=>hv.exs i2 hi d (un_mem hd)) (fun h=>absurd hk h) (un_len _ _) (Nat.le_refl _)).mono (by omega)
 refine⟨hs1.go _,fun id hne k hid=>?_⟩
 obtain ⟨hkl,hki⟩:=iat_lt hid
 show ∃k',iat (goN (v.2.1.set i2 (setN (gd tInode v.2.1 i2) (unN (nmsOf (gd tInode v.2.1 i2)) s))) (lookN (nmsOf (gd tInode v.2.1 i2)) s)) id=some k'∧gd tInode (goN (v.2.1.set i2 (setN (gd tInode v.2.1 i2) (unN (nmsOf (gd tInode v.2.1 i2)) s))) (lookN (nmsOf (gd tInode v.2.1 i2)) s)) k'=_
 have hg:gd tInode (v.2.1.set i2 (setN (gd tInode v.2.1 i2) (unN (nmsOf (gd tInode v.2.1 i2)) s))) k=if i2=k then setN (gd tInode v.2.1 i2) (unN (nmsOf (gd tInode v.2.1 i2)) s) else gd tInode v.2.1 k:=gd_set hi
 have hid1:iat (v.2.1.set i2 (setN (gd tInode v.2.1 i2) (unN (nmsOf (gd tInode v.2.1 i2)) s))) id=some k:=by rw [iat_setN _ hi];exact hid
 rw [← hg]
 generalize v.2.1.set i2 (setN (gd tInode v.2.1 i2) (unN (nmsOf (gd tInode v.2.1 i2)) s))=l1 at hs1 hid1
 generalize lookN (nmsOf (gd tInode v.2.1 i2)) s=gone at hne
 have hgo:=hs1.go gone
 unfold goN at hgo ⊢
 by_cases h0:namedN l1 gone=0
 ·rw [decide_eq_true h0] at hgo ⊢
  simp only [cond_true] at hgo ⊢
  obtain ⟨h1,h2⟩:=iat_lt hid1
  have hm:gd tInode l1 k∈l1.filter fun y => !(y.1==gone):=List.mem_filter.2 ⟨gd_mem' h1,by rw [h2,Bool.not_eq_true',beq_eq_false_iff_ne];exact hne⟩
  obtain ⟨k',hk',he⟩:=mem_gd hm
  refine⟨k',?_,he⟩
  have:=hgo.dist k' hk'
  rwa [he,h2] at this
 ·rw [decide_eq_false h0]
  exact⟨k,hid1,rfl⟩
theorem rename_both(v:tVol.D)(c:tCred.D)(x:tCall.D)(hv:VolR v)(hc:credOk c=true)(hx:CallR x):Same2 v c x (impl_doer_rename ((v,c,x,()),())) (spec_l7Rename (v,c,x,())) (Moved v c x):=by
 have hwk:=hv.wk'
 have hl:v.2.1.length≤1048576:=hwk.len
 have hp:=hx.path
 have hto:=hx.toL
 obtain ⟨q,hq,hq2⟩:=big_pred 6
 show Same2 v c x (impl_doer_rename_s (impl_doer_rename_L BIG) (v,c,x,())) (spec_l7Rename_s (spec_l7Rename_L BIG) v c x) _
 unfold impl_doer_rename_s spec_l7Rename_s
 obtain ⟨r,hr,hsI,hsS⟩:=spot_eq v c x (pathC x) false hwk hc (by omega)
 show Same2 v c x (Option.bind (impl_doer_spot ((v,c,x,()),pathC x,false,())) _) (Option.bind (spec_l7There (v,c,pathC x,false,())) _) _
 rw [hsI,hsS]
 simp only [obs]
 show Same2 v c x (cond (codeS r != 0) (some (codeS r,(v,c,x,()),())) _) (cond (codeS r != 0) (some (v,(codeS r,[],()),())) _) _
 by_cases hcode:codeS r=0
 case neg =>
  rw [bne_t hcode]
  exact Same2.no (codeS r) hcode rfl rfl
 rw [bne_f hcode]
 simp only [cond_false]
 obtain ⟨t,ht,htI,htS⟩:=spot_eq v c x (toC x) false hwk hc (by omega)
 show Same2 v c x (Option.bind (impl_doer_spot ((v,c,x,()),toC x,false,())) _) (Option.bind (spec_l7There (v,c,toC x,false,())) _) _
 rw [htI,htS]
 simp only [obs]
 show Same2 v c x (cond (codeS t != 0) (cond (codeS t != 2) (some (codeS t,(v,c,x,()),())) (cond (eqS (nameOf t) []) (some (codeS t,(v,c,x,()),())) ((impl_doer_rename_L BIG).k7 (v,c,x,()) r t))) ((impl_doer_rename_L BIG).k7 (v,c,x,()) r t))
  (cond (codeS t != 0) (cond (codeS t != 2) (some (v,(codeS t,[],()),())) (cond (eqS (nameOf t) []) (some (v,(codeS t,[],()),())) ((spec_l7Rename_L BIG).k7 v c (0,([]:List tInode.D),()) (0,([]:Txt),()) r t))) ((spec_l7Rename_L BIG).k7 v c (0,([]:List tInode.D),()) (0,([]:Txt),()) r t)) _
 by_cases hbad:codeS t≠0∧(codeS t≠2∨nameOf t=[])
 ·rw [bne_t hbad.1]
  by_cases h2:codeS t=2
  ·have hnm:nameOf t=[]:=hbad.2.elim (fun h=>absurd h2 h) id
   rw [bne_f h2,nil_eqS.2 hnm]
   exact Same2.no (codeS t) hbad.1 rfl rfl
  ·rw [bne_t h2]
   exact Same2.no (codeS t) hbad.1 rfl rfl
 have htc0:codeS t=0∨codeS t=2:=by
  by_cases h0:codeS t=0
  ·exact .inl h0
  ·exact .inr (Decidable.byContradiction fun h=>hbad ⟨h0,.inl h⟩)
 have hfirst:∀ {α : Type} (a b : α),cond (codeS t != 0) (cond (codeS t != 2) a (cond (eqS (nameOf t) []) a b)) b=b:=by
  intro α a b
  by_cases h0:codeS t=0
  ·rw [bne_f h0];rfl
  ·rw [bne_t h0]
   have h2:codeS t=2:=Decidable.byContradiction fun h=>hbad ⟨h0,.inl h⟩
   rw [bne_f h2]
   have hnm:eqS (nameOf t) []=false:=by
    rw [← Bool.not_eq_true,nil_eqS]
    exact fun h=>hbad ⟨h0,.inr h⟩
   rw [hnm];rfl
 rw [hfirst,hfirst,hq,rnI7,rnS7]
 unfold impl_doer_rename_b7 spec_l7Rename_b7
 show Same2 v c x (cond (eqS (nameOf r) []) _ (cond (eqS (nameOf t) []) _ _)) (cond (eqS (nameOf r) []) _ (cond (eqS (nameOf t) []) _ _)) _
 cases hrn0:eqS (nameOf r) [] with
 | true=>exact Same2.no 16 (by decide) rfl rfl
 | false =>
 cases htn0:eqS (nameOf t) [] with
 | true=>exact Same2.no 16 (by decide) rfl rfl
 | false =>
 simp only [cond_false,dup_eq]
 have hrn:nameOf r≠[]:=fun h=>by rw [nil_eqS.2 h] at hrn0;cases hrn0
 have htn:nameOf t≠[]:=fun h=>by rw [nil_eqS.2 h] at htn0;cases htn0
 obtain ⟨j,hj⟩:=hr.there hcode
 have hjl:=iat_lt hj
 obtain ⟨hid0,hrnm,dr,hdr,hdrk,hrlook⟩:=hr.named hcode hrn
 have hdrl:=iat_lt hdr
 obtain ⟨dt,hdt,hdtk,htlook,htc⟩:∃d,iat v.2.1 (dirOf t)=some d∧kindOf (gd tInode v.2.1 d)=2∧lookN (nmsOf (gd tInode v.2.1 d)) (nameOf t)=idS t∧(idS t=0∨∃j2,iat v.2.1 (idS t)=some j2):=by
  by_cases h0:codeS t=0
  ·obtain ⟨a1,a2,d,a3,a4,a5⟩:=ht.named h0 htn
   exact⟨d,a3,a4,a5,.inr (ht.there h0)⟩
  ·have h2:codeS t=2:=Decidable.byContradiction fun h=>hbad ⟨h0,.inl h⟩
   obtain ⟨a1,a2,d,a3,a4,a5⟩:=ht.new h2 htn
   exact⟨d,a3,a4,by rw [a5,a1],.inl a1⟩
 have hdtl:=iat_lt hdt
 show Same2 v c x (Option.bind (impl_Vol_inode (v,idS r,())) _) (Option.bind (spec_l7Node (v,dirOf r,())) fun v1=>Option.bind (spec_l7Node (v,dirOf t,())) fun v2=>Option.bind (spec_l7Node (v,idS r,())) _) _
 rw [impl_inode_some v _ hl hj,spec_Node_eq v _ hl hdr,spec_Node_eq v _ hl hdt,spec_Node_eq v _ hl hj]
 simp only [obs,List.isEmpty_cons,Bool.not_false,cond_true]
 rw [rnI10]
 unfold impl_doer_rename_b10
 show Same2 v c x (Option.bind (impl_doer_mayChange ((v,c,x,()),dirOf r,())) fun v1=>cond (!v1.1) _ (Option.bind (impl_doer_mayChange ((v,c,x,()),dirOf t,())) _)) _ _
 rw [may_impl v c x _ hl hc hdr,may_impl v c x _ hl hc hdt,spec_May_eq c _ 3 hc,spec_May_eq c _ 3 hc]
 simp only [obs]
 cases may c (gd tInode v.2.1 dr) 3 with
 | false=>exact Same2.no 13 (by decide) rfl rfl
 | true =>
 simp only [Bool.not_true,cond_false]
 cases may c (gd tInode v.2.1 dt) 3 with
 | false=>exact Same2.no 13 (by decide) rfl rfl
 | true =>
 simp only [Bool.not_true,cond_false]
 show Same2 v c x (Option.bind (impl_Vol_inode (v,dirOf r,())) _) _ _
 rw [impl_inode_some v _ hl hdr]
 simp only [obs,List.isEmpty_cons,Bool.not_false,cond_true]
 show Same2 v c x (Option.bind (impl_MayTake (c,gd tInode v.2.1 dr,gd tInode v.2.1 j,())) _) _ _
 rw [impl_MayTake_eq c _ _ hc,spec_MayTake_eq c _ _ hc]
 simp only [obs]
 cases mayTake c (gd tInode v.2.1 dr) (gd tInode v.2.1 j) with
 | false=>exact Same2.no 1 (by decide) rfl rfl
 | true =>
 simp only [Bool.not_true,cond_false]
 obtain ⟨out,hfound,hbel⟩:=impl_below_eq v hl hwk.nms (idS r)
 have hIns:=spec_Inside_eq v (dirOf t) (idS r) hl hwk.nms
 have hI22:∀(K:Option (Int×tDoer.D×Unit)),cond ((gd tInode v.2.1 j).2.1==2) (cond (t.1==r.2.2.1) (some (22,(v,c,x,()),())) (Option.bind (impl_Vol_below (v,r.2.2.1,())) fun v5=>Option.bind (slices_Contains_int_int (v5.1,t.1,())) fun v6=>cond v6.1 (some (22,(v,c,x,()),())) K)) K =
   cond (kindOf (gd tInode v.2.1 j)==2&&insideM v.2.1 (v.2.1.length+1) (dirOf t) (idS r)) (some (22,(v,c,x,()),())) K:=by
  intro K
  show cond (kindOf (gd tInode v.2.1 j)==2) (cond (dirOf t==idS r) (some (22,(v,c,x,()),())) (Option.bind (impl_Vol_below (v,idS r,())) fun v5=>Option.bind (slices_Contains_int_int (v5.1,dirOf t,())) fun v6=>cond v6.1 (some (22,(v,c,x,()),())) K)) K=_
  cases kindOf (gd tInode v.2.1 j)==2
  ·rfl
  ·simp only [cond_true,Bool.true_and]
   have hib:=inside_bel hv (d:=dirOf t) ⟨dt,hdt,hdtk⟩ (idS r)
   rw [hbel]
   simp only [obs]
   rw [contains_eq _ _ (by
    have:=hfound.len
    have:=hwk.nms
    omega)]
   simp only [obs]
   by_cases h1:dirOf t=idS r
   ·rw [beq_t h1,hib.2 (.inl h1)];rfl
   ·rw [beq_f h1]
    simp only [cond_false]
    by_cases hb:Bel v.2.1 (idS r) (dirOf t)
    ·rw [hib.2 (.inr hb),decide_eq_true ((hfound.iff _).2 hb)]
    ·have:insideM v.2.1 (v.2.1.length+1) (dirOf t) (idS r)=false:=by
      rw [← Bool.not_eq_true];exact fun h=>(hib.1 h).elim h1 hb
     rw [this,decide_eq_false (fun h=>hb ((hfound.iff _).1 h))]
 have hS22:∀(K:Option (tVol.D×tResult.D×Unit)),cond ((gd tInode v.2.1 j).2.1==2) (Option.bind (spec_l7Inside (v,t.1,r.2.2.1,())) fun v7=>cond v7.1 (some (v,(22,[],()),())) K) K =
   cond (kindOf (gd tInode v.2.1 j)==2&&insideM v.2.1 (v.2.1.length+1) (dirOf t) (idS r)) (some (v,(22,[],()),())) K:=by
  intro K
  show cond (kindOf (gd tInode v.2.1 j)==2) (Option.bind (spec_l7Inside (v,dirOf t,idS r,())) _) K=_
  rw [hIns]
  cases kindOf (gd tInode v.2.1 j)==2 <;> rfl
 rw [gd_one]
 rw [hI22,hS22]
 cases hins:kindOf (gd tInode v.2.1 j)==2&&insideM v.2.1 (v.2.1.length+1) (dirOf t) (idS r) with
 | true=>exact Same2.no 22 (by decide) rfl rfl
 | false =>
 simp only [cond_false]
 have hnb:kindOf (gd tInode v.2.1 j)=2→dirOf t≠idS r∧¬Bel v.2.1 (idS r) (dirOf t):=by
  intro hk
  rw [beq_t hk,Bool.true_and] at hins
  have hib:=inside_bel hv (d:=dirOf t) ⟨dt,hdt,hdtk⟩ (idS r)
  exact⟨fun h=>(by rw [hib.2 (.inl h)] at hins;cases hins),fun h=>(by rw [hib.2 (.inr h)] at hins;cases hins)⟩
 rw [rnI16,rnS18]
 unfold impl_doer_rename_b16 spec_l7Rename_b18
 rw [spec_Copy_eq v hl (fun i hi=>Nat.le_trans (nms_get hi) hwk.nms)]
 simp only [obs]
 show Same2 v c x (cond (idS t==idS r) (some (0,(v,c,x,()),())) (cond (!(idS t==0)) (Option.bind (impl_doer_takes ((v,c,x,()),gd tInode v.2.1 j,t,())) fun v1=>cond (v1.1 != 0) (some (v1.1,(v,c,x,()),())) (Option.bind (impl_doer_unname ((v,c,x,()),dirOf t,nameOf t,true,())) fun v2=>(impl_doer_rename_L (q+3)).k25 v2.1 r t))
   (cond (!(dirOf r==dirOf t)) (Option.bind (impl_Vol_inode (v,dirOf t,())) fun v3=>cond (!List.isEmpty v3.1) (cond (((nmsOf (gd tInode v3.1 0)).length:Int)==12) (some (28,(v,c,x,()),())) ((impl_doer_rename_L (q+3)).k25 (v,c,x,()) r t)) none) ((impl_doer_rename_L (q+3)).k25 (v,c,x,()) r t))))
  (cond (decide (idS t>0)) (cond (idS t==idS r) (some (v,(0,[],()),())) (Option.bind (spec_l7Node (v,idS t,())) fun v2=>Option.bind (spec_MayTake (c,gd tInode v.2.1 dt,v2.1,())) fun v3=>cond (!v3.1) (some (v,(1,[],()),())) (cond (kindOf (gd tInode v.2.1 j)==2) (cond (kindOf v2.1 != 2) (some (v,(20,[],()),())) ((spec_l7Rename_L (q+4)).k27 v (0,([]:List tInode.D),()) (0,([]:Txt),()) r t (gd tInode v.2.1 j) v v2.1)) ((spec_l7Rename_L (q+4)).k27 v (0,([]:List tInode.D),()) (0,([]:Txt),()) r t (gd tInode v.2.1 j) v v2.1))))
   (cond (!(dirOf r==dirOf t)) (cond (decide (((nmsOf (gd tInode v.2.1 dt)).length:Int)≥12)) (some (v,(28,[],()),())) ((spec_l7Rename_L (q+4)).k34 v (0,([]:List tInode.D),()) (0,([]:Txt),()) r t v)) ((spec_l7Rename_L (q+4)).k34 v (0,([]:List tInode.D),()) (0,([]:Txt),()) r t v))) _
 have hrp:0<idS r:=by
  have h1:=hv.ids j hjl.1
  have h2:idOf (gd tInode v.2.1 j)=idS r:=hjl.2
  omega
 have hro:=hv.ino dr hdrl.1
 have hdo:=hv.ino dt hdtl.1
 by_cases hsame:idS t=idS r
 ·rw [beq_t hsame,decide_eq_true (show idS t>0 by omega)]
  exact⟨0,v,rfl,rfl,fun _=>⟨r,t,j,hr,hcode,hrn,hj,ht,htn,htc0,.inl ⟨hsame,rfl⟩⟩⟩
 rw [beq_f hsame]
 simp only [cond_false]
 have hne:dr=dt→nameOf r≠nameOf t:=by
  rintro rfl he
  rw [he,htlook] at hrlook
  exact hsame hrlook
 by_cases ht0:idS t=0
 ·
  rw [beq_t ht0,decide_eq_false (show ¬idS t>0 by omega)]
  simp only [Bool.not_true,cond_false]
  have hpre:MovPre v.2.1 (dirOf r) (dirOf t) dr dt (nameOf r) (nameOf t) (idS r) :=
   ⟨hv.st.mono (by omega),hdr,hdt,hdrk,hdtk,hro.sorted,hdo.sorted,hrlook,by omega,by rw [hj];rfl,look_zero (by rw [htlook,ht0]) fun e he=>hv.name_pos hdtl.1 he,hne⟩
  have hfin:(dirOf r≠dirOf t→(nmsOf (gd tInode v.2.1 dt)).length<12)→Same2 v c x ((impl_doer_rename_L (q+3)).k25 (v,c,x,()) r t) ((spec_l7Rename_L (q+4)).k34 v (0,([]:List tInode.D),()) (0,([]:Txt),()) r t v) (Moved v c x):=by
   intro hlt
   have h1:=mov_impl (n:=v.1) c x r t hpre (q+2)
   have h2:=mov_spec (n:=v.1) v (0,([]:List tInode.D),()) (0,([]:Txt),()) r t hpre (q+3)
   exact⟨_,_,h1,h2,fun h=>⟨r,t,j,hr,hcode,hrn,hj,ht,htn,htc0,.inr ⟨hsame,hnb,v.2.1,dr,dt,hpre,rfl,h,.inl ⟨ht0,rfl,hlt⟩⟩⟩⟩
  by_cases hdd:dirOf r=dirOf t
  ·rw [beq_t hdd]
   exact hfin fun h=>absurd hdd h
  ·rw [beq_f hdd]
   simp only [Bool.not_false,cond_true]
   rw [impl_inode_some v _ hl hdt]
   simp only [obs,List.isEmpty_cons,Bool.not_false,cond_true]
   show Same2 v c x (cond (((nmsOf (gd tInode v.2.1 dt)).length:Int)==12) _ _) _ _
   have hn12:=(hdo.dir hdtk).2.2.2
   by_cases h12:(nmsOf (gd tInode v.2.1 dt)).length=12
   ·rw [show(((nmsOf (gd tInode v.2.1 dt)).length:Int)==12)=true by rw [h12];rfl,decide_eq_true (by omega)]
    exact Same2.no 28 (by decide) rfl rfl
   ·rw [show(((nmsOf (gd tInode v.2.1 dt)).length:Int)==12)=false by rw [beq_eq_false_iff_ne];omega,decide_eq_false (show ¬((nmsOf (gd tInode v.2.1 dt)).length:Int)≥12 by omega)]
    exact hfin fun _=>by omega
 ·
  obtain ⟨j2,hj2⟩:=htc.resolve_left ht0
  have hj2l:=iat_lt hj2
  have htp:0<idS t:=by
   have h1:=hv.ids j2 hj2l.1
   have h2:idOf (gd tInode v.2.1 j2)=idS t:=hj2l.2
   omega
  rw [beq_f ht0,decide_eq_true (show idS t>0 from htp)]
  simp only [Bool.not_false,cond_true]
  rw [takes_eq v c x _ t hl hc hdt hj2,spec_Node_eq v _ hl hj2]
  simp only [obs]
  rw [spec_MayTake_eq c _ _ hc]
  simp only [obs]
  unfold takesN
  cases mayTake c (gd tInode v.2.1 dt) (gd tInode v.2.1 j2) with
  | false=>exact Same2.no 1 (by decide) rfl rfl
  | true =>
  simp only [Bool.not_true,cond_false]
  have hS27:(spec_l7Rename_L (q+4)).k27 v (0,([]:List tInode.D),()) (0,([]:Txt),()) r t (gd tInode v.2.1 j) v (gd tInode v.2.1 j2)=cond (kindOf (gd tInode v.2.1 j)==2) (cond (decide (((nmsOf (gd tInode v.2.1 j2)).length:Int)>0)) (some (v,(39,[],()),())) (Option.bind (spec_l7Drop (v,dirOf t,nameOf t,())) fun v2=>(spec_l7Rename_L (q+2)).k34 v (0,([]:List tInode.D),()) (0,([]:Txt),()) r t v2.1))
    (cond (kindOf (gd tInode v.2.1 j2)==2) (some (v,(21,[],()),())) (Option.bind (spec_l7Drop (v,dirOf t,nameOf t,())) fun v2=>(spec_l7Rename_L (q+2)).k34 v (0,([]:List tInode.D),()) (0,([]:Txt),()) r t v2.1)):=by
   rw [rnS27]
   unfold spec_l7Rename_b27
   rw [rnS29]
   unfold spec_l7Rename_b29
   show cond (kindOf (gd tInode v.2.1 j)==2) (cond (decide (((nmsOf (gd tInode v.2.1 j2)).length:Int)>0)) _ (cond (!(kindOf (gd tInode v.2.1 j)==2)) (cond (kindOf (gd tInode v.2.1 j2)==2) _ _) _)) (cond (!(kindOf (gd tInode v.2.1 j)==2)) (cond (kindOf (gd tInode v.2.1 j2)==2) _ _) _)=_
   cases kindOf (gd tInode v.2.1 j)==2 <;> rfl
  rw [hS27]
  have hfin:nmsOf (gd tInode v.2.1 j2)=[]→(kindOf (gd tInode v.2.1 j)=2↔kindOf (gd tInode v.2.1 j2)=2)→Same2 v c x (Option.bind (impl_doer_unname ((v,c,x,()),dirOf t,nameOf t,true,())) fun v2=>(impl_doer_rename_L (q+3)).k25 v2.1 r t) (Option.bind (spec_l7Drop (v,dirOf t,nameOf t,())) fun v2=>(spec_l7Rename_L (q+2)).k34 v (0,([]:List tInode.D),()) (0,([]:Txt),()) r t v2.1) (Moved v c x):=by
   intro hnil hkk
   rw [unname_eq v c x _ _ true hl hwk.nms hdt,spec_Drop_eq v _ _ hl hwk.nms hdt hdo.sorted]
   simp only [obs,cond_true]
   obtain ⟨hst,hkeep⟩:=drop_mem hv hdtl.1 hdtk (nameOf t)
   rw [htlook] at hkeep
   have hdr_ne:dirOf r≠idS t:=by
    intro he
    rw [he,hj2] at hdr
    have:j2=dr:=osj hdr
    subst this
    obtain ⟨e,h1,_,_⟩:=lookN_mem (N:=nmsOf (gd tInode v.2.1 j2)) (s:=nameOf r) (by rw [hrlook];exact hid0)
    rw [hnil] at h1;simp at h1
   have hdt_ne:dirOf t≠idS t:=by
    intro he
    rw [he,hj2] at hdt
    have:j2=dt:=osj hdt
    subst this
    obtain ⟨e,h1,_,_⟩:=lookN_mem (N:=nmsOf (gd tInode v.2.1 j2)) (s:=nameOf t) (by rw [htlook];exact ht0)
    rw [hnil] at h1;simp at h1
   obtain ⟨ir,hir,hgr⟩:=hkeep _ hdr_ne _ hdr
   obtain ⟨it,hit,hgt⟩:=hkeep _ hdt_ne _ hdt
   obtain ⟨ij,hij,_⟩:=hkeep _ (Ne.symm hsame) _ hj
   rw [if_pos rfl] at hgt
   have hit_eq:ir=it→dr=dt:=by
    rintro rfl
    have h1:=(iat_lt hir).2
    have h2:=(iat_lt hit).2
    rw [h1] at h2
    rw [h2,hdt] at hdr
    exact(osj hdr).symm
   have hpre:MovPre (dropV v dt (nameOf t)).2.1 (dirOf r) (dirOf t) ir it (nameOf r) (nameOf t) (idS r):=by
    refine⟨hst,hir,hit,?_,?_,?_,?_,?_,by omega,by rw [hij];rfl,?_,fun e=>hne (hit_eq e)⟩
    ·rw [hgr];split
     ·exact hdtk
     ·exact hdrk
    ·rw [hgt];exact hdtk
    ·rw [hgr];split
     ·rw [nms_setN];exact un_sorted hdo.sorted _
     ·exact hro.sorted
    ·rw [hgt,nms_setN];exact un_sorted hdo.sorted _
    ·rw [hgr];split
     ·rename_i he
      subst he
      rw [nms_setN]
      obtain ⟨e,h1,h2,h3⟩:=lookN_mem (N:=nmsOf (gd tInode v.2.1 dt)) (s:=nameOf r) (by rw [hrlook];exact hid0)
      have hm:e∈unN (nmsOf (gd tInode v.2.1 dt)) (nameOf t):=List.mem_filter.2 ⟨h1,by unfold eqS;rw [h2];simpa using hne rfl⟩
      have:=look_mem (un_sorted hdo.sorted (nameOf t)) hm
      rw [h2,h3,hrlook] at this
      exact this
     ·exact hrlook
    ·rw [hgt,nms_setN];exact un_no
   show Same2 v c x ((impl_doer_rename_L (q+3)).k25 ((v.1,(dropV v dt (nameOf t)).2.1,()),c,x,()) r t) ((spec_l7Rename_L (q+2)).k34 v (0,([]:List tInode.D),()) (0,([]:Txt),()) r t (v.1,(dropV v dt (nameOf t)).2.1,())) _
   have h1:=mov_impl (n:=v.1) c x r t hpre (q+2)
   have h2:=mov_spec (n:=v.1) v (0,([]:List tInode.D),()) (0,([]:Txt),()) r t hpre (q+1)
   exact⟨_,_,h1,h2,fun h=>⟨r,t,j,hr,hcode,hrn,hj,ht,htn,htc0,.inr ⟨hsame,hnb,_,ir,it,hpre,rfl,h,.inr ⟨dt,j2,hdt,hdtk,hj2,hnil,htlook,hkk,rfl⟩⟩⟩⟩
  by_cases hk:kindOf (gd tInode v.2.1 j)=2
  ·rw [beq_t hk]
   simp only [cond_true]
   by_cases hk2:kindOf (gd tInode v.2.1 j2)=2
   ·rw [bne_f hk2]
    simp only [cond_false]
    by_cases hnil:nmsOf (gd tInode v.2.1 j2)=[]
    ·rw [hnil,show decide ((([]:List tDirent.D).length:Int)>0)=false from rfl]
     exact hfin hnil ⟨fun _=>hk2,fun _=>hk⟩
    ·have hlp:0<(nmsOf (gd tInode v.2.1 j2)).length:=List.length_pos_iff.2 hnil
     rw [decide_eq_true (by omega)]
     exact Same2.no 39 (by decide) rfl rfl
   ·rw [bne_t hk2]
    exact Same2.no 20 (by decide) rfl rfl
  ·rw [beq_f hk]
   simp only [cond_false]
   by_cases hk2:kindOf (gd tInode v.2.1 j2)=2
   ·rw [beq_t hk2]
    exact Same2.no 21 (by decide) rfl rfl
   ·rw [beq_f hk2]
    exact hfin ((hv.ino j2 hj2l.1).plain hk2).2.2 ⟨fun h=>absurd h hk,fun h=>absurd h hk2⟩
theorem there_eq(v:tVol.D)(c:tCred.D)(x:tCall.D)(fo:Bool)(hw:Wk v.2.1)(hc:credOk c=true)(hp:(pathC x).length≤1048576) :
  ∃r,SpotOk v.2.1 r∧spec_l7There (v,c,pathC x,fo,())=some (r,())∧(codeS r≠0→impl_doer_there ((v,c,x,()),fo,())=some (-1,codeS r,(v,c,x,()),())) ∧
   (codeS r=0→∃i,iat v.2.1 (idS r)=some i∧impl_doer_there ((v,c,x,()),fo,())=some ((i:Int),0,(v,c,x,()),())):=by
 obtain ⟨r,h1,h2,h3⟩:=spot_eq v c x (pathC x) fo hw hc hp
 have hI:impl_doer_there ((v,c,x,()),fo,())=cond (codeS r != 0) (some (-1,codeS r,(v,c,x,()),())) (Option.bind (impl_Vol_inode_w (v,idS r,())) fun v2=>some (v2.1,0,(v2.2.1,c,x,()),())):=by
  show impl_doer_there_s (v,c,x,()) fo=_
  unfold impl_doer_there_s
  show Option.bind (impl_doer_spot ((v,c,x,()),pathC x,fo,())) _=_
  rw [h2];rfl
 refine⟨r,h1,h3,fun h0=>by rw [hI,bne_t h0];rfl,fun h0=>?_⟩
 obtain ⟨i,hi⟩:=h1.there h0
 refine⟨i,hi,?_⟩
 rw [hI,bne_f h0,impl_inode_w_eq v _ hw.len,hi];rfl
def zer(n:Nat):Txt:=List.replicate n 0
def fillM(s:Txt)(n:Nat):Txt:=(s++zer (n-s.length)).take n
def putM(s:Txt)(at_:Nat)(d:Txt):Txt:=fillM s at_++d++s.drop (at_+d.length)
theorem fill_len(s:Txt)(n:Nat):(fillM s n).length=n:=by unfold fillM zer;rw [List.length_take,List.length_append,List.length_replicate];omega
theorem rep_zero:∀n,Lib.repeatL [0] n=zer n
 | 0=>rfl
 | n+1=>by rw [Lib.repeatL,rep_zero n];rfl
theorem filled_eq(s:Txt)(n:Nat)(hs:s.length≤1048576)(hn:n≤1048576):impl_filled (s,(n:Int),())=some (fillM s n,()):=by
 show impl_filled_s s (n:Int)=_
 unfold impl_filled_s fillM
 by_cases h:n≤s.length
 ·rw [decide_eq_true (show(s.length:Int)≥(n:Int) by omega)]
  simp only [cond_true]
  show Option.bind (rng s.length ((0:Nat):Int) (n:Int)) _=_
  rw [rng_nat (by omega) h]
  simp only [obs,Nat.sub_zero]
  rw [part_take,show n-s.length=0 by omega]
  simp [zer]
 ·rw [decide_eq_false (show ¬(s.length:Int)≥(n:Int) by omega)]
  simp only [cond_false]
  show Option.bind (repF [0] (w64 ((n:Int)-(s.length:Int)))) _=_
  rw [show w64 ((n:Int)-(s.length:Int))=((n-s.length:Nat):Int) by rw [w64_sm (by omega) (by omega)];omega]
  unfold repF
  rw [if_pos ⟨by omega,by omega,by simp;omega⟩,Int.toNat_natCast,rep_zero]
  simp only [obs]
  rw [room_t (by unfold zer;rw [List.length_replicate];omega)]
  simp only [cond_true]
  rw [List.take_of_length_le (by unfold zer;rw [List.length_append,List.length_replicate];omega)]
theorem str_bytes(t:Txt):bytesStr (strBytes t)=t:=by
 unfold bytesStr strBytes
 rw [List.map_map]
 conv=>rhs;rw [← List.map_id t]
 refine List.map_congr_left fun b _=>?_
 simp
theorem str_len(t:Txt):(strBytes t).length=t.length:=by unfold strBytes;simp
theorem str_snoc(t:Txt):strBytes t++[0]=strBytes (t++[0]):=by unfold strBytes;simp
theorem str_set(t:Txt)(i:Nat)(b:UInt8):(strBytes t).set i (b.toNat:Int)=strBytes (t.set i b):=by unfold strBytes;rw [List.map_set]
theorem spec_Put_eq(s:Txt)(at_:Nat)(d:Txt)(hs:s.length≤1048576)(ha:at_≤1048576)(hd:d.length≤1048576) :
  spec_l7Put (s,(at_:Int),d,())=some ((s++zer (at_+d.length-s.length)).take at_++d++(s++zer (at_+d.length-s.length)).drop (at_+d.length),()):=by
 show spec_l7Put_s (spec_l7Put_L BIG) s (at_:Int) d=_
 unfold spec_l7Put_s
 have hw:w64 ((at_:Int) +(d.length:Int))=((at_+d.length:Nat):Int):=by rw [w64_sm (by omega) (by omega)];omega
 generalize ht:s++zer (at_+d.length-s.length)=t
 have htl:at_+d.length≤t.length∧t.length≤4194304:=by rw [← ht];unfold zer;rw [List.length_append,List.length_replicate];omega
 have h5:∀(r i:Nat),i+r=d.length→Ev (fun m=>(spec_l7Put_L m).k5 (at_:Int) d (i:Int) (strBytes (t.take at_++d.take i++t.drop (at_+i)))) (r+1) (some (t.take at_++d++t.drop (at_+d.length),())):=by
  intro r
  induction r with
  | zero =>
   intro i hi
   refine Ev.now 1 fun m=>?_
   show spec_l7Put_b5 (spec_l7Put_L m) _ _ _ _=_
   unfold spec_l7Put_b5
   rw [lt_f (by omega)]
   simp only [cond_false]
   rw [str_bytes,show i=d.length by omega,List.take_length]
  | succ r ih =>
   intro i hi
   have hlt:i<d.length:=by omega
   refine((ih (i+1) (by omega)).jump (f:=fun m=>(spec_l7Put_L m).k5 (at_:Int) d (i:Int) (strBytes (t.take at_++d.take i++t.drop (at_+i)))) 1 fun m=>?_).mono (by omega)
   show spec_l7Put_b5 (spec_l7Put_L m) _ _ _ _=_
   unfold spec_l7Put_b5
   rw [lt_t hlt,ix_nat hlt]
   simp only [cond_true,obs]
   have hll:(t.take at_++d.take i).length=at_+i:=by rw [List.length_append,List.length_take,List.length_take];omega
   have hlen:at_+i<(strBytes (t.take at_++d.take i++t.drop (at_+i))).length:=by
    rw [str_len,List.length_append,hll,List.length_drop];omega
   rw [show w64 ((at_:Int) +(i:Int))=((at_+i:Nat):Int) by rw [w64_sm (by omega) (by omega)];omega,ix_nat hlen]
   simp only [obs,Nat.zero_add]
   unfold spec_l7Put_b5_v3
   rw [inc_i i (by omega),str_set]
   congr 2
   rw [dropcD (show at_+i<t.length by omega),List.set_append_right _ _ (by rw [hll];omega),hll,Nat.sub_self,List.set_cons_zero,List.take_succ_eq_append_getElem hlt,List.getD_eq_getElem?_getD,List.getElem?_eq_getElem hlt,show at_ +(i+1)=at_+i+1 by omega]
   simp only [List.append_assoc,List.singleton_append,List.cons_append,List.nil_append,Option.getD_some]
 have h2:∀(r k:Nat),k+r=at_+d.length-s.length→Ev (fun m=>(spec_l7Put_L m).k2 (at_:Int) d (strBytes (s++zer k))) (r+d.length+3) (some (t.take at_++d++t.drop (at_+d.length),())):=by
  intro r
  induction r with
  | zero =>
   intro k hk
   have hk:k=at_+d.length-s.length:=by omega
   subst hk
   rw [ht]
   have:=h5 d.length 0 (by omega)
   rw [List.take_zero,List.append_nil,Nat.add_zero,List.take_append_drop] at this
   refine(this.jump (f:=fun m=>(spec_l7Put_L m).k2 (at_:Int) d (strBytes t)) 1 fun m=>?_).mono (by omega)
   show spec_l7Put_b2 (spec_l7Put_L m) _ _ _=_
   unfold spec_l7Put_b2
   rw [hw,str_len,lt_f (by omega)];rfl
  | succ r ih =>
   intro k hk
   refine((ih (k+1) (by omega)).jump (f:=fun m=>(spec_l7Put_L m).k2 (at_:Int) d (strBytes (s++zer k))) 1 fun m=>?_).mono (by omega)
   show spec_l7Put_b2 (spec_l7Put_L m) _ _ _=_
   unfold spec_l7Put_b2
   have hl:(strBytes (s++zer k)).length=s.length+k:=by rw [str_len,List.length_append];unfold zer;rw [List.length_replicate]
   rw [hw,lt_t (by rw [hl];omega)]
   simp only [cond_true]
   rw [room_t (by rw [hl];simp only [List.length_cons,List.length_nil];omega)]
   simp only [cond_true]
   rw [str_snoc,List.append_assoc]
   have:zer k++[0]=zer (k+1):=by unfold zer;rw [List.replicate_succ']
   rw [this]
 have:=h2 (at_+d.length-s.length) 0 (by omega)
 rw [show zer 0=[] from rfl,List.append_nil] at this
 exact ev_big this (by omega)
theorem put_eq(s:Txt)(at_:Nat)(d:Txt):(s++zer (at_+d.length-s.length)).take at_++d++(s++zer (at_+d.length-s.length)).drop (at_+d.length)=putM s at_ d:=by
 unfold putM fillM
 congr 1
 ·congr 1
  rw [List.take_append,List.take_append]
  congr 1
  unfold zer
  rw [List.take_replicate,List.take_replicate]
  congr 1
  omega
 ·rw [List.drop_append]
  have:(zer (at_+d.length-s.length)).drop (at_+d.length-s.length)=[]:=List.drop_of_length_le (by unfold zer;rw [List.length_replicate];omega)
  rw [this,List.append_nil]
theorem put_take(s:Txt)(at_:Nat):((s++zer (at_ +([]:Txt).length-s.length)).take at_++([]:Txt)++(s++zer (at_ +([]:Txt).length-s.length)).drop (at_ +([]:Txt).length)).take at_=fillM s at_:=by
 rw [put_eq]
 unfold putM
 rw [List.append_nil,List.take_append_of_le_length (by rw [fill_len];omega),List.take_of_length_le (by rw [fill_len];omega)]
def setD(x:Ino)(d:Txt):Ino:=(x.1,x.2.1,x.2.2.1,x.2.2.2.1,x.2.2.2.2.1,d,x.2.2.2.2.2.2.1,x.2.2.2.2.2.2.2.1,x.2.2.2.2.2.2.2.2.1,())
def atOf(x:tCall.D)(n:Ino):Int:=if kdC x=6 then((dataOf n).length:Int) else nC x
def newD(x:tCall.D)(n:Ino):Txt:=if kdC x=7 then fillM (dataOf n) (nC x).toNat else putM (dataOf n) (atOf x n).toNat (datC x)
structure Wrote(v:tVol.D)(c:tCred.D)(x:tCall.D)(w:tVol.D):Prop where
 out:∃r i,SpotOk v.2.1 r∧codeS r=0∧iat v.2.1 (idS r)=some i∧kindOf (gd tInode v.2.1 i)≠2∧may c (gd tInode v.2.1 i) 2=true∧0≤atOf x (gd tInode v.2.1 i) ∧
  ((kdC x≠7∧datC x=[]∧w=v)∨((kdC x≠7→datC x≠[])∧atOf x (gd tInode v.2.1 i) +(datC x).length≤64∧w=(v.1,v.2.1.set i (setD (gd tInode v.2.1 i) (newD x (gd tInode v.2.1 i))),())∧fitsN w.2.1=0))
theorem file_eq(v:tVol.D)(c:tCred.D)(x:tCall.D)(want:Int)(hw:Wk v.2.1)(hc:credOk c=true)(hp:(pathC x).length≤1048576) :
  ∃r,SpotOk v.2.1 r∧spec_l7There (v,c,pathC x,true,())=some (r,())∧(codeS r≠0→impl_doer_file ((v,c,x,()),want,())=some (-1,codeS r,(v,c,x,()),())) ∧
   (codeS r=0→∃i,iat v.2.1 (idS r)=some i∧impl_doer_file ((v,c,x,()),want,())=cond (kindOf (gd tInode v.2.1 i)==2) (some (-1,21,(v,c,x,()),())) (cond (!may c (gd tInode v.2.1 i) want) (some (-1,13,(v,c,x,()),())) (some ((i:Int),0,(v,c,x,()),())))):=by
 obtain ⟨r,h1,h2,h3,h4⟩:=there_eq v c x true hw hc hp
 refine⟨r,h1,h2,fun h0=>?_,fun h0=>?_⟩
 ·show impl_doer_file_s (v,c,x,()) want=_
  unfold impl_doer_file_s
  rw [h3 h0]
  simp only [obs]
  rw [bne_t h0];rfl
 ·obtain ⟨i,hi,h5⟩:=h4 h0
  refine⟨i,hi,?_⟩
  show impl_doer_file_s (v,c,x,()) want=_
  unfold impl_doer_file_s
  rw [h5]
  simp only [obs]
  rw [show((0:Int) != 0)=false from rfl]
  simp only [cond_false]
  rw [ix_nat (iat_lt hi).1]
  simp only [obs]
  rw [impl_May_eq c _ want hc];rfl
theorem chI7(m:Nat)(a b d):(impl_doer_change_L (m+1)).k7 a b d=impl_doer_change_b7 (impl_doer_change_L m) a b d:=rfl
theorem chI11(m:Nat)(a b d):(impl_doer_change_L (m+1)).k11 a b d=impl_doer_change_b11 (impl_doer_change_L m) a b d:=rfl
theorem chI18(m:Nat)(a b d):(impl_doer_change_L (m+1)).k18 a b d=impl_doer_change_b18 (impl_doer_change_L m) a b d:=rfl
theorem wrS12(m:Nat)(a b d e f g):(spec_l7Write_L (m+1)).k12 a b d e f g=spec_l7Write_b12 (spec_l7Write_L m) a b d e f g:=rfl
theorem wrS23(m:Nat)(a b d e):(spec_l7Write_L (m+1)).k23 a b d e=spec_l7Write_b23 (spec_l7Write_L m) a b d e:=rfl
theorem VolR.dat{v:tVol.D}(h:VolR v){i:Nat}(hi:i<v.2.1.length):(dataOf (gd tInode v.2.1 i)).length≤64:=by
 have:=h.ino i hi
 rcases this.kind with k | k | k
 ·exact this.file k
 ·rw [(this.dir k).1];simp
 ·have:=target_pos (this.lnk k).1;omega
theorem write_both(v:tVol.D)(c:tCred.D)(x:tCall.D)(hv:VolR v)(hc:credOk c=true)(hx:CallR x)(hk:kdC x=5∨kdC x=6∨kdC x=7):Same2 v c x (impl_doer_change ((v,c,x,()),())) (spec_l7Write (v,c,x,())) (Wrote v c x):=by
 have hwk:=hv.wk'
 have hl:v.2.1.length≤1048576:=hwk.len
 have hp:=hx.path
 have hdl64:=hx.dat
 have hnb:=hx.n
 obtain ⟨q,hq,hq2⟩:=big_pred 4
 show Same2 v c x (impl_doer_change_s (impl_doer_change_L BIG) (v,c,x,())) (spec_l7Write_s (spec_l7Write_L BIG) v c x) _
 unfold impl_doer_change_s spec_l7Write_s
 obtain ⟨r,hr,hsS,hI1,hI2⟩:=file_eq v c x 2 hwk hc (by omega)
 show Same2 v c x _ (Option.bind (spec_l7There (v,c,pathC x,true,())) _) _
 rw [hsS]
 simp only [obs]
 show Same2 v c x _ (cond (codeS r != 0) (some (v,(codeS r,[],()),())) _) _
 by_cases hcode:codeS r=0
 case neg =>
  rw [hI1 hcode,bne_t hcode]
  simp only [obs]
  rw [bne_t hcode]
  exact Same2.no (codeS r) hcode rfl rfl
 obtain ⟨i,hi,hI⟩:=hI2 hcode
 have hil:=iat_lt hi
 rw [hI,bne_f hcode]
 simp only [cond_false]
 show Same2 v c x _ (Option.bind (spec_l7Node (v,idS r,())) _) _
 rw [spec_Node_eq v _ hl hi]
 simp only [obs]
 show Same2 v c x _ (cond (kindOf (gd tInode v.2.1 i)==2) _ _) _
 by_cases hki:kindOf (gd tInode v.2.1 i)=2
 ·rw [beq_t hki]
  exact Same2.no 21 (by decide) rfl rfl
 rw [beq_f hki]
 simp only [cond_false]
 rw [spec_May_eq c _ 2 hc]
 simp only [obs]
 cases hm:may c (gd tInode v.2.1 i) 2 with
 | false=>exact Same2.no 13 (by decide) rfl rfl
 | true =>
 simp only [Bool.not_true,cond_false,obs]
 rw [show((0:Int) != 0)=false from rfl]
 simp only [cond_false]
 have hdi:=hv.dat hil.1
 have hatI:cond (x.1==6) ((ix v.2.1.length (i:Int)).bind fun v2=>(impl_doer_change_L BIG).k7 (i:Int) ((gd tInode v.2.1 v2).2.2.2.2.2.1.length:Int) (v,c,x,())) ((impl_doer_change_L BIG).k7 (i:Int) x.2.2.2.1 (v,c,x,()))=(impl_doer_change_L BIG).k7 (i:Int) (atOf x (gd tInode v.2.1 i)) (v,c,x,()):=by
  rw [ix_nat hil.1]
  unfold atOf
  show cond (kdC x==6) _ _=_
  by_cases h6:kdC x=6
  ·rw [beq_t h6,if_pos h6];rfl
  ·rw [beq_f h6,if_neg h6];rfl
 have hatS:cond (x.1==6) ((spec_l7Write_L BIG).k12 ((gd tInode v.2.1 i).2.2.2.2.2.1.length:Int) v x (0,([]:List tInode.D),()) (0,([]:Txt),()) (gd tInode v.2.1 i)) ((spec_l7Write_L BIG).k12 x.2.2.2.1 v x (0,([]:List tInode.D),()) (0,([]:Txt),()) (gd tInode v.2.1 i))=(spec_l7Write_L BIG).k12 (atOf x (gd tInode v.2.1 i)) v x (0,([]:List tInode.D),()) (0,([]:Txt),()) (gd tInode v.2.1 i):=by
  unfold atOf
  show cond (kdC x==6) _ _=_
  by_cases h6:kdC x=6
  ·rw [beq_t h6,if_pos h6];rfl
  ·rw [beq_f h6,if_neg h6];rfl
 show Same2 v c x (cond (x.1==6) ((ix v.2.1.length (i:Int)).bind fun v2=>(impl_doer_change_L BIG).k7 (i:Int) ((gd tInode v.2.1 v2).2.2.2.2.2.1.length:Int) (v,c,x,())) ((impl_doer_change_L BIG).k7 (i:Int) x.2.2.2.1 (v,c,x,())))
  (cond (x.1==6) ((spec_l7Write_L BIG).k12 ((gd tInode v.2.1 i).2.2.2.2.2.1.length:Int) v x (0,([]:List tInode.D),()) (0,([]:Txt),()) (gd tInode v.2.1 i)) ((spec_l7Write_L BIG).k12 x.2.2.2.1 v x (0,([]:List tInode.D),()) (0,([]:Txt),()) (gd tInode v.2.1 i))) _
 rw [hatI,hatS,hq,chI7,wrS12]
 unfold impl_doer_change_b7 spec_l7Write_b12
 by_cases hneg:atOf x (gd tInode v.2.1 i)<0
 ·rw [decide_eq_true hneg]
  exact Same2.no 22 (by decide) rfl rfl
 rw [decide_eq_false hneg]
 simp only [cond_false]
 obtain ⟨a,ha⟩:∃a:Nat,atOf x (gd tInode v.2.1 i)=a:=⟨(atOf x (gd tInode v.2.1 i)).toNat,by omega⟩
 have haB:a≤1000000:=by
  have:atOf x (gd tInode v.2.1 i)≤1000000:=by
   unfold atOf
   split
   ·omega
   ·exact hnb.2
  omega
 show Same2 v c x (cond (!(kdC x==7)) (cond (eqS (datC x) []) (some (0,(v,c,x,()),())) ((impl_doer_change_L (q+3)).k11 (i:Int) (atOf x (gd tInode v.2.1 i)) (v,c,x,()))) ((impl_doer_change_L (q+3)).k11 (i:Int) (atOf x (gd tInode v.2.1 i)) (v,c,x,())))
  (cond (kdC x==7) (cond (decide (atOf x (gd tInode v.2.1 i)>64)) (some (v,(27,[],()),())) (Option.bind (spec_l7Put (dataOf (gd tInode v.2.1 i),atOf x (gd tInode v.2.1 i),[],())) fun v1=>Option.bind (rng v1.1.length 0 (atOf x (gd tInode v.2.1 i))) fun v2=>(spec_l7Write_L (q+3)).k23 v (0,([]:List tInode.D),()) (0,([]:Txt),()) (setD (gd tInode v.2.1 i) (part v1.1 v2.1 (v2.2-v2.1)))))
   (cond (eqS (datC x) []) (some (v,(0,[],()),())) (cond (decide (atOf x (gd tInode v.2.1 i)>w64 (64-((datC x).length:Int)))) (some (v,(27,[],()),())) (Option.bind (spec_l7Put (dataOf (gd tInode v.2.1 i),atOf x (gd tInode v.2.1 i),datC x,())) fun v3=>(spec_l7Write_L (q+3)).k23 v (0,([]:List tInode.D),()) (0,([]:Txt),()) (setD (gd tInode v.2.1 i) v3.1))))) _
 have hdone:kdC x≠7→datC x=[]→Wrote v c x v:=fun h7 hd=>⟨r,i,hr,hcode,hi,hki,hm,by omega,.inl ⟨h7,hd,rfl⟩⟩
 by_cases hemp:kdC x≠7∧datC x=[]
 ·rw [beq_f hemp.1,nil_eqS.2 hemp.2]
  exact⟨0,v,rfl,rfl,fun _=>hdone hemp.1 hemp.2⟩
 have hgoI:cond (!(kdC x==7)) (cond (eqS (datC x) []) (some (0,(v,c,x,()),())) ((impl_doer_change_L (q+3)).k11 (i:Int) (atOf x (gd tInode v.2.1 i)) (v,c,x,()))) ((impl_doer_change_L (q+3)).k11 (i:Int) (atOf x (gd tInode v.2.1 i)) (v,c,x,()))=(impl_doer_change_L (q+3)).k11 (i:Int) (atOf x (gd tInode v.2.1 i)) (v,c,x,()):=by
  by_cases h7:kdC x=7
  ·rw [beq_t h7];rfl
  ·rw [beq_f h7]
   have:eqS (datC x) []=false:=by rw [← Bool.not_eq_true,nil_eqS];exact fun h=>hemp ⟨h7,h⟩
   rw [this];rfl
 rw [hgoI,chI11]
 unfold impl_doer_change_b11
 show Same2 v c x (cond (decide (w64 (atOf x (gd tInode v.2.1 i) +((datC x).length:Int))>64)) _ _) _ _
 have h7d:kdC x=7→datC x=[]:=fun h7=>hx.noDat.elim id fun h=>by omega
 have hsum:w64 (atOf x (gd tInode v.2.1 i) +((datC x).length:Int))=((a +(datC x).length:Nat):Int):=by rw [ha,w64_sm (by omega) (by omega)];omega
 rw [hsum]
 by_cases hbig:a +(datC x).length>64
 ·rw [decide_eq_true (by omega)]
  have:cond (kdC x==7) (cond (decide (atOf x (gd tInode v.2.1 i)>64)) (some (v,((27:Int),([]:Txt),()),())) (Option.bind (spec_l7Put (dataOf (gd tInode v.2.1 i),atOf x (gd tInode v.2.1 i),[],())) fun v1=>Option.bind (rng v1.1.length 0 (atOf x (gd tInode v.2.1 i))) fun v2=>(spec_l7Write_L (q+3)).k23 v (0,([]:List tInode.D),()) (0,([]:Txt),()) (setD (gd tInode v.2.1 i) (part v1.1 v2.1 (v2.2-v2.1)))))
   (cond (eqS (datC x) []) (some (v,(0,[],()),())) (cond (decide (atOf x (gd tInode v.2.1 i)>w64 (64-((datC x).length:Int)))) (some (v,(27,[],()),())) (Option.bind (spec_l7Put (dataOf (gd tInode v.2.1 i),atOf x (gd tInode v.2.1 i),datC x,())) fun v3=>(spec_l7Write_L (q+3)).k23 v (0,([]:List tInode.D),()) (0,([]:Txt),()) (setD (gd tInode v.2.1 i) v3.1))))=some (v,(27,[],()),()):=by
   by_cases h7:kdC x=7
   ·have h0:=h7d h7
    rw [h0] at hbig
    simp only [List.length_nil] at hbig
    rw [beq_t h7,decide_eq_true (show atOf x (gd tInode v.2.1 i)>64 by omega)];rfl
   ·rw [beq_f h7]
    have h0:eqS (datC x) []=false:=by rw [← Bool.not_eq_true,nil_eqS];exact fun h=>hemp ⟨h7,h⟩
    rw [h0,show w64 (64-((datC x).length:Int))=64-((datC x).length:Int) from w64_sm (by omega) (by omega),decide_eq_true (show atOf x (gd tInode v.2.1 i)>64-((datC x).length:Int) by omega)];rfl
  rw [this]
  exact Same2.no 27 (by decide) rfl rfl
 rw [decide_eq_false (by omega)]
 simp only [cond_false]
 obtain ⟨w,hw⟩:∃w:tVol.D,w=(v.1,v.2.1.set i (setD (gd tInode v.2.1 i) (newD x (gd tInode v.2.1 i))),()):=⟨_,rfl⟩
 have hnl:(newD x (gd tInode v.2.1 i)).length≤200:=by
  have hf:∀s n,(fillM s n).length=n:=fill_len
  unfold newD putM
  rw [ha,Int.toNat_natCast]
  split
  ·rename_i h7
   have:atOf x (gd tInode v.2.1 i)=nC x:=by unfold atOf;rw [if_neg (by omega)]
   rw [hf];omega
  ·rw [List.length_append,List.length_append,hf,List.length_drop];omega
 have hst:St 1000 w.2.1:=by
  rw [hw]
  exact(hv.st.set (k:=200) (i:=i) (y:=setD (gd tInode v.2.1 i) (newD x (gd tInode v.2.1 i))) hil.1 rfl (fun d hd=>hv.exs i hil.1 d hd) (fun hk'=>hv.st.bare i hil.1 hk') (Nat.le_add_right _ _) (by
   show(newD x (gd tInode v.2.1 i)).length≤_
   omega)).mono (by omega)
 have hwr:fitsN w.2.1=0→Wrote v c x w:=fun hf=>⟨r,i,hr,hcode,hi,hki,hm,by omega,.inr ⟨fun h7 h=>hemp ⟨h7,h⟩,by omega,hw,hf⟩⟩
 have h18:∀m,(impl_doer_change_L (m+1)).k18 (i:Int) (newD x (gd tInode v.2.1 i)) (v,c,x,())=some (fitsN w.2.1,(w,c,x,()),()):=by
  intro m
  rw [chI18]
  unfold impl_doer_change_b18
  show Option.bind (ix v.2.1.length (i:Int)) _=_
  rw [ix_nat hil.1]
  show Option.bind (impl_doer_over (((v.1,v.2.1.set i (setD (gd tInode v.2.1 i) (newD x (gd tInode v.2.1 i))),()),c,x,()),())) (fun v3=>some (v3.1,((v.1,v.2.1.set i (setD (gd tInode v.2.1 i) (newD x (gd tInode v.2.1 i))),()),c,x,()),()))=_
  rw [← hw,over_eq w c x hst (by omega)];rfl
 have h23:∀m,(spec_l7Write_L (m+1)).k23 v (0,([]:List tInode.D),()) (0,([]:Txt),()) (setD (gd tInode v.2.1 i) (newD x (gd tInode v.2.1 i)))=some (cond (fitsN w.2.1==0) w v,(fitsN w.2.1,[],()),()):=by
  intro m
  rw [wrS23]
  unfold spec_l7Write_b23
  rw [spec_Copy_eq v hl (fun i hi=>Nat.le_trans (nms_get hi) hwk.nms)]
  simp only [obs]
  rw [spec_With_set v _ hl (show iat v.2.1 (setD (gd tInode v.2.1 i) (newD x (gd tInode v.2.1 i))).1=some i from(show(gd tInode v.2.1 i).1=idS r from hil.2) ▸ hi),← hw]
  simp only [obs]
  rw [try_eq v w hst (by omega)];rfl
 have hputI:(cond (decide (((dataOf (gd tInode v.2.1 i)).length:Int) >((fillM (dataOf (gd tInode v.2.1 i)) a++datC x).length:Int)))
   ((rng (dataOf (gd tInode v.2.1 i)).length ((fillM (dataOf (gd tInode v.2.1 i)) a++datC x).length:Int) ((dataOf (gd tInode v.2.1 i)).length:Int)).bind fun v5=>cond (room ((fillM (dataOf (gd tInode v.2.1 i)) a++datC x).length +(part (dataOf (gd tInode v.2.1 i)) v5.1 (v5.2-v5.1)).length))
    ((impl_doer_change_L (q+2)).k18 (i:Int) ((fillM (dataOf (gd tInode v.2.1 i)) a++datC x)++part (dataOf (gd tInode v.2.1 i)) v5.1 (v5.2-v5.1)) (v,c,x,())) none)
   ((impl_doer_change_L (q+2)).k18 (i:Int) (fillM (dataOf (gd tInode v.2.1 i)) a++datC x) (v,c,x,())))=(impl_doer_change_L (q+2)).k18 (i:Int) (putM (dataOf (gd tInode v.2.1 i)) a (datC x)) (v,c,x,()):=by
  have hfl:(fillM (dataOf (gd tInode v.2.1 i)) a++datC x).length=a +(datC x).length:=by rw [List.length_append,fill_len]
  rw [hfl]
  unfold putM
  by_cases hgt:(dataOf (gd tInode v.2.1 i)).length>a +(datC x).length
  ·rw [decide_eq_true (by omega)]
   simp only [cond_true]
   rw [rng_nat (by omega) (Nat.le_refl _)]
   simp only [obs]
   rw [part_drop,room_t (by rw [List.length_drop];omega)];rfl
  ·rw [decide_eq_false (by omega)]
   simp only [cond_false]
   rw [List.drop_of_length_le (by omega),List.append_nil]
 show Same2 v c x (Option.bind (ix v.2.1.length (i:Int)) fun v1=>Option.bind (impl_filled (dataOf (gd tInode v.2.1 v1),atOf x (gd tInode v.2.1 i),())) fun v2=>cond (!(kdC x==7)) (cond (room (v2.1.length +(datC x).length)) (Option.bind (ix v.2.1.length (i:Int)) fun v3=>cond (decide (((dataOf (gd tInode v.2.1 v3)).length:Int) >((v2.1++datC x).length:Int)))
   (Option.bind (ix v.2.1.length (i:Int)) fun v4=>(rng (dataOf (gd tInode v.2.1 v4)).length ((v2.1++datC x).length:Int) ((dataOf (gd tInode v.2.1 v4)).length:Int)).bind fun v5=>cond (room ((v2.1++datC x).length +(part (dataOf (gd tInode v.2.1 v4)) v5.1 (v5.2-v5.1)).length))
    ((impl_doer_change_L (q+2)).k18 (i:Int) ((v2.1++datC x)++part (dataOf (gd tInode v.2.1 v4)) v5.1 (v5.2-v5.1)) (v,c,x,())) none)
   ((impl_doer_change_L (q+2)).k18 (i:Int) (v2.1++datC x) (v,c,x,()))) none) ((impl_doer_change_L (q+2)).k18 (i:Int) v2.1 (v,c,x,()))) _ _
 rw [ix_nat hil.1,ha]
 simp only [obs]
 rw [filled_eq _ _ (by omega) (by omega)]
 simp only [obs]
 rw [room_t (by rw [fill_len];omega)]
 simp only [cond_true]
 rw [hputI]
 by_cases h7:kdC x=7
 ·have hd0:=h7d h7
  have hnd:newD x (gd tInode v.2.1 i)=fillM (dataOf (gd tInode v.2.1 i)) a:=by
   unfold newD
   rw [if_pos h7]
   have:atOf x (gd tInode v.2.1 i)=nC x:=by unfold atOf;rw [if_neg (by omega)]
   rw [← this,ha,Int.toNat_natCast]
  rw [beq_t h7]
  rw [hd0] at hbig
  simp only [List.length_nil] at hbig
  rw [decide_eq_false (show ¬((a:Int)>64) by omega)]
  simp only [Bool.not_true,cond_false,cond_true]
  rw [spec_Put_eq _ _ _ (by omega) (by omega) (by simp)]
  simp only [obs]
  rw [put_eq]
  show Same2 v c x _ (Option.bind (rng (putM (dataOf (gd tInode v.2.1 i)) a []).length ((0:Nat):Int) (a:Int)) _) _
  rw [rng_nat (by omega) (by unfold putM;rw [List.length_append,List.length_append,fill_len];omega)]
  simp only [obs,Nat.sub_zero]
  have hpt:part (putM (dataOf (gd tInode v.2.1 i)) a []) 0 a=newD x (gd tInode v.2.1 i):=by
   rw [part_take,hnd,← put_take,put_eq]
  rw [hpt,← hnd,h18 (q+1),h23 (q+2)]
  exact⟨_,_,rfl,rfl,hwr⟩
 ·have hnd:newD x (gd tInode v.2.1 i)=putM (dataOf (gd tInode v.2.1 i)) a (datC x):=by
   unfold newD
   rw [if_neg h7,ha,Int.toNat_natCast]
  rw [beq_f h7]
  have h0:eqS (datC x) []=false:=by rw [← Bool.not_eq_true,nil_eqS];exact fun h=>hemp ⟨h7,h⟩
  rw [h0,show w64 (64-((datC x).length:Int))=64-((datC x).length:Int) from w64_sm (by omega) (by omega),decide_eq_false (show ¬((a:Int)>64-((datC x).length:Int)) by omega)]
  simp only [Bool.not_false,cond_true,cond_false]
  rw [spec_Put_eq _ _ _ (by omega) (by omega) (by omega)]
  simp only [obs]
  rw [put_eq,← hnd,h18 (q+1),h23 (q+2)]
  exact⟨_,_,rfl,rfl,hwr⟩
theorem bytes_gd(l:List Ino):bytesOf l=((List.range l.length).map fun i=>(dataOf (gd tInode l i)).length).sum:=by
 unfold bytesOf
 congr 1
 refine List.ext_getElem (by simp) fun i h1 h2=>?_
 simp only [List.length_map] at h1
 rw [List.getElem_map,List.getElem_map,List.getElem_range,gd_eq h1]
structure Alike(l l':List Ino):Prop where
 len:l'.length=l.length
 id:∀i,(gd tInode l' i).1=(gd tInode l i).1
 dat:∀i,dataOf (gd tInode l' i)=dataOf (gd tInode l i)
 nms:∀i,nmsOf (gd tInode l' i)=nmsOf (gd tInode l i)
theorem Alike.iat{l l':List Ino}(h:Alike l l'):Vg.iat l'=Vg.iat l:=by
 funext id
 unfold Vg.iat
 rw [h.len]
 refine fnd_congr fun i _=>?_
 rw [h.id]
theorem Alike.below{l l':List Ino}(h:Alike l l'):belowF l'=belowF l:=by
 have e1:stJ l'=stJ l:=by
  funext i j s
  unfold stJ
  rw [h.iat,h.nms]
 have e2:stI l'=stI l:=by
  funext i s
  unfold stI
  rw [e1,h.nms]
 have e3:rnd l'=rnd l:=by
  funext s
  unfold rnd
  rw [e2,h.len]
 funext id
 unfold belowF
 rw [h.iat,h.len,e3]
theorem Alike.ov{l l':List Ino}(h:Alike l l')(x x':Ino)(h1:x'.1=x.1)(h2:maxB x'=maxB x)(h3:maxI x'=maxI x):ovP l' x'=ovP l x:=by
 have e1:useB l'=useB l:=by
  funext F
  unfold useB inL dl
  rw [h.len]
  congr 2
  funext i
  rw [h.dat]
 have e2:useN l'=useN l:=by
  funext F
  unfold useN inL
  rw [h.len]
 unfold ovP
 rw [e1,e2,h.below,h1,h2,h3]
theorem Alike.fits{l l':List Ino}(h:Alike l l')(hb:∀i,maxB (gd tInode l' i)=maxB (gd tInode l i))(hi:∀i,maxI (gd tInode l' i)=maxI (gd tInode l i)):fitsN l'=fitsN l:=by
 have e1:bytesOf l'=bytesOf l:=by
  rw [bytes_gd,bytes_gd,h.len]
  congr 2
  funext i
  rw [h.dat]
 have e2:overAny l'=overAny l:=by
  unfold overAny
  rw [h.len]
  congr 2
  funext i
  rw [h.ov (gd tInode l i) (gd tInode l' i) (h.id i) (hb i) (hi i)]
 unfold fitsN
 rw [e1,e2]
theorem alike_set{l:List Ino}{i:Nat}{y:Ino}(hi:i<l.length)(h1:y.1=(gd tInode l i).1)(h2:dataOf y=dataOf (gd tInode l i))(h3:nmsOf y=nmsOf (gd tInode l i)):Alike l (l.set i y):=by
 refine⟨List.length_set,fun j=>?_,fun j=>?_,fun j=>?_⟩ <;>
  ·rw [gd_set hi]
   split
   ·rename_i he;subst he;assumption
   ·rfl
def setM(x:Ino)(m u g:Int):Ino:=(x.1,x.2.1,m,u,g,x.2.2.2.2.2.1,x.2.2.2.2.2.2.1,x.2.2.2.2.2.2.2.1,x.2.2.2.2.2.2.2.2.1,())
theorem setM_id(x:Ino)(m u g:Int):(setM x m u g).1=x.1:=rfl
theorem setM_fits{v:tVol.D}(hv:VolR v){i:Nat}(hi:i<v.2.1.length)(m u g:Int):fitsN (v.2.1.set i (setM (gd tInode v.2.1 i) m u g))=0:=by
 have ha:Alike v.2.1 (v.2.1.set i (setM (gd tInode v.2.1 i) m u g)):=alike_set hi rfl rfl rfl
 rw [ha.fits (fun j=>by
  rw [gd_set hi]
  split
  ·rename_i he;subst he;rfl
  ·rfl) (fun j=>by
  rw [gd_set hi]
  split
  ·rename_i he;subst he;rfl
  ·rfl)]
 unfold fitsN
 rw [decide_eq_false (by have:=hv.bytes;omega),hv.over];rfl
theorem setM_st{v:tVol.D}(hv:VolR v){i:Nat}(hi:i<v.2.1.length)(m u g:Int):St 1000 (v.2.1.set i (setM (gd tInode v.2.1 i) m u g)) :=
 (hv.st.set (k:=1) (i:=i) (y:=setM (gd tInode v.2.1 i) m u g) hi rfl (fun d hd=>hv.exs i hi d hd) (fun hk=>hv.st.bare i hi hk) (Nat.le_add_right _ _) (Nat.le_add_right _ _)).mono (by omega)
def andNot(a b:Int):Int:=bitsI .andNot .i64 a b
def chMode(c:tCred.D)(x:tCall.D)(n:Ino):Int:=if c.1≠0∧inG c (gidOf n)=false then andNot (nC x) 1024 else nC x
theorem stS8(m:Nat)(a b d e f g):(spec_l7Set_L (m+1)).k8 a b d e f g=spec_l7Set_b8 (spec_l7Set_L m) a b d e f g:=rfl
theorem stS12(m:Nat)(a b d e f):(spec_l7Set_L (m+1)).k12 a b d e f=spec_l7Set_b12 (spec_l7Set_L m) a b d e f:=rfl
theorem stS24(m:Nat)(a b d e f g):(spec_l7Set_L (m+1)).k24 a b d e f g=spec_l7Set_b24 (spec_l7Set_L m) a b d e f g:=rfl
theorem stS32(m:Nat)(a b d e):(spec_l7Set_L (m+1)).k32 a b d e=spec_l7Set_b32 (spec_l7Set_L m) a b d e:=rfl
theorem set32{v:tVol.D}(hv:VolR v)(z:tVol.D)(z':tResult.D){i:Nat}(hi:i<v.2.1.length)(n:Ino)(hn:n.1=(gd tInode v.2.1 i).1)(hst:St 1000 (v.2.1.set i n))(m:Nat) :
  (spec_l7Set_L (m+1)).k32 v z z' n=some (cond (fitsN (v.2.1.set i n)==0) (v.1,v.2.1.set i n,()) v,(fitsN (v.2.1.set i n),[],()),()):=by
 have hwk:=hv.wk'
 rw [stS32]
 unfold spec_l7Set_b32
 rw [spec_Copy_eq v hwk.len (fun i hi=>Nat.le_trans (nms_get hi) hwk.nms)]
 simp only [obs]
 rw [spec_With_set v n hwk.len (show iat v.2.1 n.1=some i from hn ▸ hv.dist i hi)]
 simp only [obs]
 rw [try_eq v (v.1,v.2.1.set i n,()) hst (by omega)];rfl
structure Moded(v:tVol.D)(c:tCred.D)(x:tCall.D)(w:tVol.D):Prop where
 out:0≤nC x∧nC x≤2047∧∃r i,SpotOk v.2.1 r∧codeS r=0∧iat v.2.1 (idS r)=some i∧(c.1≠0→c.1=uidOf (gd tInode v.2.1 i)) ∧
  w=(v.1,v.2.1.set i (setM (gd tInode v.2.1 i) (chMode c x (gd tInode v.2.1 i)) (uidOf (gd tInode v.2.1 i)) (gidOf (gd tInode v.2.1 i))),())
theorem mode_both(v:tVol.D)(c:tCred.D)(x:tCall.D)(hv:VolR v)(hc:credOk c=true)(hx:CallR x)(hk:kdC x=15):Same2 v c x (impl_doer_mode ((v,c,x,()),())) (spec_l7Set (v,c,x,())) (Moded v c x):=by
 have hwk:=hv.wk'
 have hl:v.2.1.length≤1048576:=hwk.len
 have hp:=hx.path
 obtain ⟨q,hq,hq2⟩:=big_pred 4
 show Same2 v c x (impl_doer_mode_s (impl_doer_mode_L8 BIG) (v,c,x,())) (spec_l7Set_s (spec_l7Set_L BIG) v c x) _
 unfold impl_doer_mode_s spec_l7Set_s
 show Same2 v c x (Option.bind (impl_within (nC x,0,2047,())) _) (cond (kdC x==15) (Option.bind (spec_l1In (nC x,0,2047,())) _) _) _
 rw [beq_t hk,within_eq,l1In_eq]
 simp only [cond_true,obs]
 rw [hq,stS8]
 unfold spec_l7Set_b8
 cases hN:inR (nC x) 0 2047 with
 | false=>exact Same2.no 22 (by decide) rfl rfl
 | true =>
 have hNr:=inR_iff.1 hN
 simp only [Bool.not_true,cond_false]
 show Same2 v c x _ (cond (kdC x==19) _ _) _
 rw [beq_f (show kdC x≠19 by omega),stS12]
 simp only [cond_false]
 unfold spec_l7Set_b12
 obtain ⟨r,hr,hsS,hI1,hI2⟩:=there_eq v c x true hwk hc (by omega)
 show Same2 v c x _ (Option.bind (spec_l7There (v,c,pathC x,true,())) _) _
 rw [hsS]
 simp only [obs]
 show Same2 v c x _ (cond (codeS r != 0) (some (v,(codeS r,[],()),())) _) _
 by_cases hcode:codeS r=0
 case neg =>
  rw [hI1 hcode,bne_t hcode]
  simp only [obs]
  rw [bne_t hcode]
  exact Same2.no (codeS r) hcode rfl rfl
 obtain ⟨i,hi,hI⟩:=hI2 hcode
 have hil:=iat_lt hi
 rw [hI,bne_f hcode]
 simp only [cond_false,obs]
 rw [show((0:Int) != 0)=false from rfl]
 simp only [cond_false]
 show Same2 v c x _ (Option.bind (spec_l7Node (v,idS r,())) _) _
 rw [spec_Node_eq v _ hl hi,ix_nat hil.1]
 simp only [obs]
 show Same2 v c x (cond (c.1 != 0) (cond (c.1 != uidOf (gd tInode v.2.1 i)) (some (1,(v,c,x,()),())) (impl_doer_mode_L8 (q+4) (i:Int) (v,c,x,()))) (impl_doer_mode_L8 (q+4) (i:Int) (v,c,x,())))
  (cond (kdC x==15) (cond (c.1 != 0) (cond (c.1 != uidOf (gd tInode v.2.1 i)) (some (v,(1,[],()),())) ((spec_l7Set_L (q+2)).k24 v c x (0,([]:List tInode.D),()) (0,([]:Txt),()) (gd tInode v.2.1 i))) ((spec_l7Set_L (q+2)).k24 v c x (0,([]:List tInode.D),()) (0,([]:Txt),()) (gd tInode v.2.1 i))) _) _
 rw [beq_t hk]
 simp only [cond_true]
 have hfin:(c.1≠0→c.1=uidOf (gd tInode v.2.1 i))→Same2 v c x (impl_doer_mode_L8 (q+4) (i:Int) (v,c,x,())) ((spec_l7Set_L (q+2)).k24 v c x (0,([]:List tInode.D),()) (0,([]:Txt),()) (gd tInode v.2.1 i)) (Moded v c x):=by
  intro hu
  have hI:impl_doer_mode_L8 (q+4) (i:Int) (v,c,x,())=some (0,((v.1,v.2.1.set i (setM (gd tInode v.2.1 i) (chMode c x (gd tInode v.2.1 i)) (uidOf (gd tInode v.2.1 i)) (gidOf (gd tInode v.2.1 i))),()),c,x,()),()):=by
   rw [impl_doer_mode_L8,impl_doer_mode_b8]
   show Option.bind (ix v.2.1.length (i:Int)) (fun v1=>impl_doer_mode_b8_v2 (v,c,x,()) (i:Int) (v.2.1.set v1 (setM (gd tInode v.2.1 v1) (nC x) (uidOf (gd tInode v.2.1 v1)) (gidOf (gd tInode v.2.1 v1)))))=_
   rw [ix_nat hil.1]
   simp only [obs]
   unfold impl_doer_mode_b8_v2 chMode
   have hg:gd tInode (v.2.1.set i (setM (gd tInode v.2.1 i) (nC x) (uidOf (gd tInode v.2.1 i)) (gidOf (gd tInode v.2.1 i)))) i=setM (gd tInode v.2.1 i) (nC x) (uidOf (gd tInode v.2.1 i)) (gidOf (gd tInode v.2.1 i)):=by rw [gd_set hil.1,if_pos rfl]
   have hix:ix (v.2.1.set i (setM (gd tInode v.2.1 i) (nC x) (uidOf (gd tInode v.2.1 i)) (gidOf (gd tInode v.2.1 i)))).length (i:Int)=some i:=ix_nat (by rw [List.length_set];exact hil.1)
   show cond (c.1 != 0) _ _=_
   by_cases h0:c.1=0
   ·rw [bne_f h0,if_neg (fun h=>h.1 h0)];rfl
   ·rw [bne_t h0,hix]
    simp only [cond_true,obs]
    rw [hg]
    show Option.bind (impl_In (c,gidOf (gd tInode v.2.1 i),())) _=_
    rw [impl_In_eq c _ hc]
    simp only [obs]
    cases hg2:inG c (gidOf (gd tInode v.2.1 i)) with
    | true=>rw [if_neg (fun h=>by cases h.2)];rfl
    | false =>
     rw [if_pos ⟨h0,rfl⟩]
     simp only [Bool.not_false,cond_true]
     unfold impl_doer_mode_b8_v7
     rw [List.set_set];rfl
  have hS:(spec_l7Set_L (q+2)).k24 v c x (0,([]:List tInode.D),()) (0,([]:Txt),()) (gd tInode v.2.1 i)=(spec_l7Set_L (q+1)).k32 v (0,([]:List tInode.D),()) (0,([]:Txt),()) (setM (gd tInode v.2.1 i) (chMode c x (gd tInode v.2.1 i)) (uidOf (gd tInode v.2.1 i)) (gidOf (gd tInode v.2.1 i))):=by
   rw [stS24]
   unfold spec_l7Set_b24 chMode
   show cond (c.1 != 0) (Option.bind (spec_In (c,gidOf (gd tInode v.2.1 i),())) _) _=_
   by_cases h0:c.1=0
   ·rw [bne_f h0,if_neg (fun h=>h.1 h0)];rfl
   ·rw [bne_t h0,spec_In_eq c _ hc]
    simp only [cond_true,obs]
    cases hg2:inG c (gidOf (gd tInode v.2.1 i)) with
    | true=>rw [if_neg (fun h=>by cases h.2)];rfl
    | false=>rw [if_pos ⟨h0,rfl⟩];rfl
  rw [hI,hS,set32 hv _ _ hil.1 _ (setM_id _ _ _ _) (setM_st hv hil.1 _ _ _),setM_fits hv hil.1]
  exact⟨0,_,rfl,rfl,fun _=>⟨hNr.1,hNr.2,r,i,hr,hcode,hi,hu,rfl⟩⟩
 by_cases h0:c.1=0
 ·rw [bne_f h0]
  exact hfin fun h=>absurd h0 h
 ·rw [bne_t h0]
  simp only [cond_true]
  by_cases hu:c.1=uidOf (gd tInode v.2.1 i)
  ·rw [bne_f hu]
   exact hfin fun _=>hu
  ·rw [bne_t hu]
   exact Same2.no 1 (by decide) rfl rfl
structure Owned(v:tVol.D)(c:tCred.D)(x:tCall.D)(w:tVol.D):Prop where
 out:(0≤nC x∧nC x≤1000)∧(0≤mC x∧mC x≤1000)∧∃r i,SpotOk v.2.1 r∧codeS r=0∧iat v.2.1 (idS r)=some i∧w=(v.1,v.2.1.set i (setM (gd tInode v.2.1 i) (modeOf (gd tInode v.2.1 i)) (nC x) (mC x)),())
theorem owner_both(v:tVol.D)(c:tCred.D)(x:tCall.D)(hv:VolR v)(hc:credOk c=true)(hx:CallR x)(hk:kdC x=16):Same2 v c x (impl_doer_owner ((v,c,x,()),())) (spec_l7Set (v,c,x,())) (Owned v c x):=by
 have hwk:=hv.wk'
 have hl:v.2.1.length≤1048576:=hwk.len
 have hp:=hx.path
 obtain ⟨q,hq,hq2⟩:=big_pred 4
 show Same2 v c x (impl_doer_owner_s (impl_doer_owner_L8 BIG) (v,c,x,())) (spec_l7Set_s (spec_l7Set_L BIG) v c x) _
 unfold impl_doer_owner_s spec_l7Set_s
 show Same2 v c x (Option.bind (impl_within (nC x,0,1000,())) fun v1=>cond (!v1.1) _ (Option.bind (impl_within (mC x,0,1000,())) _)) (cond (kdC x==15) _ (cond (kdC x==16) (Option.bind (spec_l1In (nC x,0,1000,())) fun v2=>cond (!v2.1) _ (Option.bind (spec_l1In (mC x,0,1000,())) _)) _)) _
 rw [beq_f (show kdC x≠15 by omega),beq_t hk]
 simp only [cond_true,cond_false]
 rw [within_eq,l1In_eq]
 simp only [obs]
 rw [hq]
 cases hN:inR (nC x) 0 1000 with
 | false =>
  simp only [Bool.not_false,cond_true]
  rw [stS8]
  exact Same2.no 22 (by decide) rfl rfl
 | true =>
 have hNr:=inR_iff.1 hN
 simp only [Bool.not_true,cond_false]
 rw [within_eq,l1In_eq]
 simp only [obs]
 rw [stS8]
 unfold spec_l7Set_b8
 cases hM:inR (mC x) 0 1000 with
 | false=>exact Same2.no 22 (by decide) rfl rfl
 | true =>
 have hMr:=inR_iff.1 hM
 simp only [Bool.not_true,cond_false]
 show Same2 v c x _ (cond (kdC x==19) _ _) _
 rw [beq_f (show kdC x≠19 by omega),stS12]
 simp only [cond_false]
 unfold spec_l7Set_b12
 obtain ⟨r,hr,hsS,hI1,hI2⟩:=there_eq v c x true hwk hc (by omega)
 show Same2 v c x _ (Option.bind (spec_l7There (v,c,pathC x,true,())) _) _
 rw [hsS]
 simp only [obs]
 show Same2 v c x _ (cond (codeS r != 0) (some (v,(codeS r,[],()),())) _) _
 by_cases hcode:codeS r=0
 case neg =>
  rw [hI1 hcode,bne_t hcode]
  simp only [obs]
  rw [bne_t hcode]
  exact Same2.no (codeS r) hcode rfl rfl
 obtain ⟨i,hi,hI⟩:=hI2 hcode
 have hil:=iat_lt hi
 rw [hI,bne_f hcode]
 simp only [cond_false,obs]
 rw [show((0:Int) != 0)=false from rfl]
 simp only [cond_false]
 show Same2 v c x _ (Option.bind (spec_l7Node (v,idS r,())) _) _
 rw [spec_Node_eq v _ hl hi,ix_nat hil.1]
 simp only [obs]
 show Same2 v c x (cond (c.1 != 0) (cond (c.1 != uidOf (gd tInode v.2.1 i)) (some (1,(v,c,x,()),())) (cond (nC x != uidOf (gd tInode v.2.1 i)) (some (1,(v,c,x,()),())) (Option.bind (impl_In (c,mC x,())) fun v6=>cond (!v6.1) (some (1,(v,c,x,()),())) (impl_doer_owner_L8 (q+4) (i:Int) (v,c,x,()))))) (impl_doer_owner_L8 (q+4) (i:Int) (v,c,x,())))
  (cond (kdC x==15) _ (cond (kdC x==16) (cond (c.1 != 0) (cond (c.1 != uidOf (gd tInode v.2.1 i)) (some (v,(1,[],()),())) (cond (nC x != uidOf (gd tInode v.2.1 i)) (some (v,(1,[],()),())) (Option.bind (spec_In (c,mC x,())) fun v3=>cond (!v3.1) (some (v,(1,[],()),())) ((spec_l7Set_L (q+2)).k32 v (0,([]:List tInode.D),()) (0,([]:Txt),()) (setM (gd tInode v.2.1 i) (modeOf (gd tInode v.2.1 i)) (nC x) (mC x))))))
   ((spec_l7Set_L (q+2)).k32 v (0,([]:List tInode.D),()) (0,([]:Txt),()) (setM (gd tInode v.2.1 i) (modeOf (gd tInode v.2.1 i)) (nC x) (mC x)))) _)) _
 rw [beq_f (show kdC x≠15 by omega),beq_t hk,impl_In_eq c _ hc,spec_In_eq c _ hc]
 simp only [cond_true,cond_false,obs]
 have hfin:Same2 v c x (impl_doer_owner_L8 (q+4) (i:Int) (v,c,x,())) ((spec_l7Set_L (q+2)).k32 v (0,([]:List tInode.D),()) (0,([]:Txt),()) (setM (gd tInode v.2.1 i) (modeOf (gd tInode v.2.1 i)) (nC x) (mC x))) (Owned v c x):=by
  have hI:impl_doer_owner_L8 (q+4) (i:Int) (v,c,x,())=some (0,((v.1,v.2.1.set i (setM (gd tInode v.2.1 i) (modeOf (gd tInode v.2.1 i)) (nC x) (mC x)),()),c,x,()),()):=by
   rw [impl_doer_owner_L8,impl_doer_owner_b8]
   show Option.bind (ix v.2.1.length (i:Int)) (fun v1=>impl_doer_owner_b8_v2 (i:Int) (v,c,x,()) (v.2.1.set v1 (setM (gd tInode v.2.1 v1) (modeOf (gd tInode v.2.1 v1)) (nC x) (gidOf (gd tInode v.2.1 v1)))))=_
   rw [ix_nat hil.1]
   simp only [obs]
   unfold impl_doer_owner_b8_v2
   rw [ix_nat (by rw [List.length_set];exact hil.1)]
   simp only [obs]
   unfold impl_doer_owner_b8_v4
   rw [List.set_set,gd_set hil.1,if_pos rfl];rfl
  rw [hI,set32 hv _ _ hil.1 _ (setM_id _ _ _ _) (setM_st hv hil.1 _ _ _),setM_fits hv hil.1]
  exact⟨0,_,rfl,rfl,fun _=>⟨hNr,hMr,r,i,hr,hcode,hi,rfl⟩⟩
 by_cases h0:c.1=0
 ·rw [bne_f h0]
  exact hfin
 ·rw [bne_t h0]
  simp only [cond_true]
  by_cases hu:c.1=uidOf (gd tInode v.2.1 i)
  ·rw [bne_f hu]
   simp only [cond_false]
   by_cases hn:nC x=uidOf (gd tInode v.2.1 i)
   ·rw [bne_f hn]
    simp only [cond_false]
    cases inG c (mC x) with
    | false=>exact Same2.no 1 (by decide) rfl rfl
    | true=>exact hfin
   ·rw [bne_t hn]
    exact Same2.no 1 (by decide) rfl rfl
  ·rw [bne_t hu]
   exact Same2.no 1 (by decide) rfl rfl
def setQ(x:Ino)(b k:Int):Ino:=(x.1,x.2.1,x.2.2.1,x.2.2.2.1,x.2.2.2.2.1,x.2.2.2.2.2.1,x.2.2.2.2.2.2.1,b,k,())
theorem setQ_id(x:Ino)(b k:Int):(setQ x b k).1=x.1:=rfl
structure Quoted(v:tVol.D)(c:tCred.D)(x:tCall.D)(w:tVol.D):Prop where
 out:(0≤nC x∧nC x≤400)∧(0≤mC x∧mC x≤24)∧c.1=0∧∃r i,SpotOk v.2.1 r∧codeS r=0∧iat v.2.1 (idS r)=some i∧kindOf (gd tInode v.2.1 i)=2∧w=(v.1,v.2.1.set i (setQ (gd tInode v.2.1 i) (nC x) (mC x)),())∧fitsN w.2.1=0
theorem quota_both(v:tVol.D)(c:tCred.D)(x:tCall.D)(hv:VolR v)(hc:credOk c=true)(hx:CallR x)(hk:kdC x=19):Same2 v c x (impl_doer_quota ((v,c,x,()),())) (spec_l7Set (v,c,x,())) (Quoted v c x):=by
 have hwk:=hv.wk'
 have hl:v.2.1.length≤1048576:=hwk.len
 have hp:=hx.path
 obtain ⟨q,hq,hq2⟩:=big_pred 4
 show Same2 v c x (impl_doer_quota_s (v,c,x,())) (spec_l7Set_s (spec_l7Set_L BIG) v c x) _
 unfold impl_doer_quota_s spec_l7Set_s
 show Same2 v c x (Option.bind (impl_within (nC x,0,400,())) fun v1=>cond (!v1.1) _ (Option.bind (impl_within (mC x,0,24,())) _)) (cond (kdC x==15) _ (cond (kdC x==16) _ (Option.bind (spec_l1In (nC x,0,400,())) fun v2=>cond (!v2.1) _ (Option.bind (spec_l1In (mC x,0,24,())) _)))) _
 rw [beq_f (show kdC x≠15 by omega),beq_f (show kdC x≠16 by omega)]
 simp only [cond_true,cond_false]
 rw [within_eq,l1In_eq]
 simp only [obs]
 rw [hq]
 cases hN:inR (nC x) 0 400 with
 | false =>
  simp only [Bool.not_false,cond_true]
  rw [stS8]
  exact Same2.no 22 (by decide) rfl rfl
 | true =>
 have hNr:=inR_iff.1 hN
 simp only [Bool.not_true,cond_false]
 rw [within_eq,l1In_eq]
 simp only [obs]
 rw [stS8]
 unfold spec_l7Set_b8
 cases hM:inR (mC x) 0 24 with
 | false=>exact Same2.no 22 (by decide) rfl rfl
 | true =>
 have hMr:=inR_iff.1 hM
 simp only [Bool.not_true,cond_false]
 show Same2 v c x (cond (c.1 != 0) _ _) (cond (kdC x==19) (cond (c.1 != 0) _ _) _) _
 rw [beq_t hk]
 simp only [cond_true]
 by_cases h0:c.1=0
 case neg =>
  rw [bne_t h0]
  exact Same2.no 1 (by decide) rfl rfl
 rw [bne_f h0]
 simp only [cond_false]
 rw [stS12]
 unfold spec_l7Set_b12
 obtain ⟨r,hr,hsS,hI1,hI2⟩:=there_eq v c x true hwk hc (by omega)
 show Same2 v c x _ (Option.bind (spec_l7There (v,c,pathC x,true,())) _) _
 rw [hsS]
 simp only [obs]
 show Same2 v c x _ (cond (codeS r != 0) (some (v,(codeS r,[],()),())) _) _
 by_cases hcode:codeS r=0
 case neg =>
  rw [hI1 hcode,bne_t hcode]
  simp only [obs]
  rw [bne_t hcode]
  exact Same2.no (codeS r) hcode rfl rfl
 obtain ⟨i,hi,hI⟩:=hI2 hcode
 have hil:=iat_lt hi
 rw [hI,bne_f hcode]
 simp only [cond_false,obs]
 rw [show((0:Int) != 0)=false from rfl]
 simp only [cond_false]
 show Same2 v c x _ (Option.bind (spec_l7Node (v,idS r,())) _) _
 rw [spec_Node_eq v _ hl hi,ix_nat hil.1]
 simp only [obs]
 show Same2 v c x (cond (kindOf (gd tInode v.2.1 i) != 2) (some (20,(v,c,x,()),())) (impl_doer_quota_s_v6 ((i:Int),0,(v,c,x,()),()) (v.2.1.set i (setQ (gd tInode v.2.1 i) (nC x) (maxI (gd tInode v.2.1 i))))))
  (cond (kdC x==15) _ (cond (kdC x==16) _ (cond (kindOf (gd tInode v.2.1 i) != 2) (some (v,(20,[],()),())) ((spec_l7Set_L (q+2)).k32 v (0,([]:List tInode.D),()) (0,([]:Txt),()) (setQ (gd tInode v.2.1 i) (nC x) (mC x)))))) _
 rw [beq_f (show kdC x≠15 by omega),beq_f (show kdC x≠16 by omega)]
 simp only [cond_false]
 by_cases hki:kindOf (gd tInode v.2.1 i)=2
 case neg =>
  rw [bne_t hki]
  exact Same2.no 20 (by decide) rfl rfl
 rw [bne_f hki]
 simp only [cond_false]
 have hst:St 1000 (v.2.1.set i (setQ (gd tInode v.2.1 i) (nC x) (mC x))):=(hv.st.set (k:=1) (i:=i) (y:=setQ (gd tInode v.2.1 i) (nC x) (mC x)) hil.1 rfl (fun d hd=>hv.exs i hil.1 d hd) (fun hk=>absurd hki hk) (Nat.le_add_right _ _) (Nat.le_add_right _ _)).mono (by omega)
 have hI:impl_doer_quota_s_v6 ((i:Int),0,(v,c,x,()),()) (v.2.1.set i (setQ (gd tInode v.2.1 i) (nC x) (maxI (gd tInode v.2.1 i))))=some (fitsN (v.2.1.set i (setQ (gd tInode v.2.1 i) (nC x) (mC x))),((v.1,v.2.1.set i (setQ (gd tInode v.2.1 i) (nC x) (mC x)),()),c,x,()),()):=by
  unfold impl_doer_quota_s_v6
  rw [ix_nat (by rw [List.length_set];exact hil.1)]
  simp only [obs]
  rw [List.set_set,gd_set hil.1,if_pos rfl]
  show impl_doer_quota_s_v8 ((i:Int),0,(v,c,x,()),()) (v.2.1.set i (setQ (gd tInode v.2.1 i) (nC x) (mC x)))=_
  unfold impl_doer_quota_s_v8
  show Option.bind (impl_doer_over (((v.1,v.2.1.set i (setQ (gd tInode v.2.1 i) (nC x) (mC x)),()),c,x,()),())) _=_
  rw [over_eq (v.1,v.2.1.set i (setQ (gd tInode v.2.1 i) (nC x) (mC x)),()) c x hst (by omega)];rfl
 rw [hI,set32 hv _ _ hil.1 _ (setQ_id _ _ _) hst]
 exact⟨_,_,rfl,rfl,fun h=>⟨hNr,hMr,h0,r,i,hr,hcode,hi,hki,rfl,h⟩⟩
end Go.LM.Vg
