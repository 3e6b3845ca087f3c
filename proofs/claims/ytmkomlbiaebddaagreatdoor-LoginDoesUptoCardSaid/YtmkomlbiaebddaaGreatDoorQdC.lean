/- Steps of a walk over the memory of the second way. Steps of a walk over the memory of the second way: slices that grow, and new ones. Steps of a walk: going through a text rune by rune; pairs of texts held against each other. Steps of a walk: arrays in blocks, by a running index. Values of flat types held against each other: numbers, truths, texts, and structs and arrays of such. Steps of a walk: great arrays in blocks of their own, and calls of functions that stand in a slot. Conditions: as each theorem says. -/
import Derived.Lib.ConvBytes
import Derived.Lib.AppendStr
import Derived.Test.YtmkomlbiaebddaaGreatDoorQdB
namespace Go.Proofs.YtmkomlbiaebddaaGreatDoor
open Go Go.RowKit
section
section
variable {P:Program}{ops:Array Oper}{Q:Exit→Act→World→Prop}{rest:List Oper}{n:Nat}{m:FM}{w w':World}{B:Bas}{S:Mem}{L:List Res}
variable {d:Nat}{op:Op}{ty:TypeId}{pos:String}{aft:Array Edge}{c v u:Value}{x y z lo hi:Operand}{T E T':TypeId}
theorem zbT{c:Code}(h:∀m0,(∀t,look m0 t=look m t)→c.wp P Q (fr n m0) w):c.wp P Q (fr n m) w:=h m fun _=>rfl
theorem nameL(h:∀m0,(∀t,look m0 t=look m t)→wpList P ops Q rest (fr n m0) w):wpList P ops Q rest (fr n m) w:=h m fun _=>rfl
theorem yxO(h:(execOp (evO n m) ⟨some d,op,ty,pos,aft,none⟩).run P w = .ok (.value c) w')(hr:wpList P ops Q rest (fr n ((d,c)::m)) w'):
  wpList P ops Q (⟨some d,op,ty,pos,aft,none⟩::rest) (fr n m) w:=
 wpList_plain rfl fun K hK=>by
  unfold Oper.wp;rw[zhQ,h];simp only[Oper.upon,zkA];exact hK _ _ hr
theorem xdE(h:(execOp (evO n m) ⟨none,op,ty,pos,aft,none⟩).run P w = .ok .skip w')(hr:wpList P ops Q rest (fr n m) w'):
  wpList P ops Q (⟨none,op,ty,pos,aft,none⟩::rest) (fr n m) w:=
 wpList_plain rfl fun K hK=>by
  unfold Oper.wp;rw[zhQ,h];simp only[Oper.upon,ybA];exact hK _ _ hr
theorem zxE{φ:World→Value→Prop}(h:∃w' v,(execOp (evO n m) ⟨some d,op,ty,pos,aft,none⟩).run P w = .ok (.value v) w'∧φ w' v)(hr:∀w' v,φ w' v→wpList P ops Q rest (fr n ((d,v)::m)) w'):
  wpList P ops Q (⟨some d,op,ty,pos,aft,none⟩::rest) (fr n m) w:=by
 obtain⟨w',v,h1,h2⟩:=h
 exact yxO h1 (hr w' v h2)
theorem yjL{φ:World→Nat→Prop}(h:∃w' b,(execOp (evO n m) ⟨some d,op,ty,pos,aft,none⟩).run P w = .ok (.value (.pointer (some ⟨b,0,none⟩))) w'∧φ w' b)(hr:∀w' b,φ w' b→wpList P ops Q rest (fr n ((d,.pointer (some ⟨b,0,none⟩))::m)) w'):
  wpList P ops Q (⟨some d,op,ty,pos,aft,none⟩::rest) (fr n m) w:=by
 obtain⟨w',v,h1,h2⟩:=h
 exact yxO h1 (hr w' v h2)
theorem zxX{A B:World→Value→LV→Prop}(h:∃w' v,(execOp (evO n m) ⟨some d,op,ty,pos,aft,none⟩).run P w = .ok (.value v) w'∧∃c,A w' v c∧B w' v c)(hr:∀w' v c,A w' v c→B w' v c→wpList P ops Q rest (fr n ((d,v)::m)) w'):
  wpList P ops Q (⟨some d,op,ty,pos,aft,none⟩::rest) (fr n m) w:=by
 obtain⟨w',v,h1,c,h2,h3⟩:=h
 exact yxO h1 (hr w' v c h2 h3)
theorem zvI{A B:World→Value→LV→LV→Prop}(h:∃w' v,(execOp (evO n m) ⟨some d,op,ty,pos,aft,none⟩).run P w = .ok (.value v) w'∧∃c r,A w' v c r∧B w' v c r)(hr:∀w' v c r,A w' v c r→B w' v c r→wpList P ops Q rest (fr n ((d,v)::m)) w'):
  wpList P ops Q (⟨some d,op,ty,pos,aft,none⟩::rest) (fr n m) w:=by
 obtain⟨w',v,h1,c,r,h2,h3⟩:=h
 exact yxO h1 (hr w' v c r h2 h3)
theorem yfK{A B:World→LV→Prop}(h:∃w',(execOp (evO n m) ⟨none,op,ty,pos,aft,none⟩).run P w = .ok .skip w'∧∃c,A w' c∧B w' c)(hr:∀w' c,A w' c→B w' c→wpList P ops Q rest (fr n m) w'):
  wpList P ops Q (⟨none,op,ty,pos,aft,none⟩::rest) (fr n m) w:=by
 obtain⟨w',h1,c,h2,h3⟩:=h
 exact xdE h1 (hr w' c h2 h3)
theorem zyG{φ:World→Prop}(h:∃w',(execOp (evO n m) ⟨none,op,ty,pos,aft,none⟩).run P w = .ok .skip w'∧φ w')(hr:∀w',φ w'→wpList P ops Q rest (fr n m) w'):
  wpList P ops Q (⟨none,op,ty,pos,aft,none⟩::rest) (fr n m) w:=by
 obtain⟨w',h1,h2⟩:=h
 exact xdE h1 (hr w' h2)
section
variable {nh k:Nat}{Φ:zgC}{W:World}{vs:Nat→Gv}{Fin:Act→Prop}
def depF(Φ:zgC)(vs:Nat→Gv)(l:List Nat):Nat→Bool:=fun b=>l.any fun k=>relK Φ k&&(vs k).f b
theorem xdK{Φ:zgC}{vs:Nat→Gv}{l:List Nat}{i:Nat}{w:World}(hl:l.contains i=true)(hr:relK Φ i=true):Mem.le (gf S W (vs i).f w) (gf S W (depF Φ vs l) w):=
 gf_up fun b hb=>List.any_eq_true.2 ⟨i,by simpa using hl,by rw[hr,hb];rfl⟩
abbrev kR{α:Type}[Rp α](S:Mem)(W:World)(y:List α):Sum Value (Gv→World→Prop):=.inr (fun g w'=>RdS (gf S W g.f w') g.v y)
theorem wrS{id:Nat}{l hd tl:List Oper}{a:Act}{B:Bas}{S:Mem}{L:List Res}(H:HS B S w L)(n:Nat)(ks:List (Nat×Sum Value (Gv→World→Prop)))
  (h:∀vs:Nat→Gv,HS B S w.drew L→wpT P l.toArray n (yjJ ks) w.drew vs (fun a'=>∀w',Ext w.drew w'→zfW (yjJ ks) vs w' (List.range n)→Apart l.toArray n (yjJ ks) vs→wpList P l.toArray (OnlyNormal Q) tl a' w') 0 hd a)
  (hh:l.take n=hd:=by (simp only[tkS,tkZ])<;>exact rfl) (ht:l.drop n=tl:=by (simp only[drS,drZ])<;>exact rfl)
  (hX:(yjJ ks xm).isSome=false:=by rfl) (hm:P.follows .mixedOrders=true:=by rfl) (hB:extB l.toArray n=true:=by kernel_rfl):(Code.region id l.toArray true).wp P Q a w:=by
 subst hh ht;exact znK n (yjJ ks) hX hm hB fun vs=>h vs H.drew
theorem HS.tn{B:Bas}{S:Mem}{L:List Res}{F G:World→Prop}{A:Prop}(H:HS B S W L)(k:∀w,HS B S w L→G w):∀w,Ext W w→F w→A→G w:=fun w hx _ _=>k w (H.ext hx)
theorem HS.tf{B:Bas}{S:Mem}{L:List Res}{G:World→Prop}{A:Prop}{l:List Nat}(H:HS B S W L)(k:∀w S',Mem.le S S'→HS B S' w L→(∀{α:Type} [Rp α] (j:Nat) {y:List α},Φ j=some (kR S W y)→l.contains j=true→RdS S' (vs j).v y)→G w):∀w,Ext W w→zfW Φ vs w l→A→G w:=
 fun w hx hF _=>k w (gf S W (depF Φ vs l) w) (gf_le H.sub) (H.callF hx) fun {_} _ j {_} hk hl=>RdS.mono (yhV hF j hk hl) (xdK hl (by unfold relK;rw[hk]))
end
theorem zjM{σ β:Type}{body:σ→Option (σ⊕β)}{c:Code}{m0:FM}(D:List Nat)(I:σ→FM→World→Prop){s0:σ}{out:β}(hL:iter body s0=some out)(h0:I s0 m0 w)
  (round:∀k s m w,(∀t,has D t=false→look m t=look m0 t)→I s m w→∀o,body s=some o→jnO o (zxC body k) some=some out →
   c.wp P (Exit.then (fun a' w'=>∃s' m',a'=fr n m'∧(∀t,has D t=false→look m' t=look m0 t)∧I s' m' w'∧zxC body k s'=some out) Q) (fr n m) w):(Code.loop c).wp P Q (fr n m0) w:=by
 refine loopF D (fun g m w=>∃s,I s m w∧zxC body g s=some out) FU ⟨s0,h0,hL⟩ ?_
 rintro g m w hk ⟨s,hI,hs⟩
 cases g with
 |zero=>cases hs
 |succ g=>
  obtain⟨o,h1,h2⟩:=ylU hs
  refine wp_mono (round g s m w hk hI o h1 h2) fun e a' w' hq=>?_
  cases e with
  |normal=>
   obtain⟨s',m',e1,e2,e3,e4⟩:=hq
   exact⟨g,m',Nat.lt_succ_self g,e1,e2,s',e3,e4⟩
  |_=>exact hq
theorem a_box{l:LV}{e:Operand→Value}{dst:Option Tmp}{g:Option (Nat×Bool)}(H:HS B S w L)(hx:e x = .agg l.toArray):
  ∃w' b,(execOp e ⟨dst,.box T x,ty,pos,aft,g⟩).run P w = .ok (.value (.pointer (some ⟨b,0,none⟩))) w'∧HS B S w' (.blk b l T::L):=by
 refine⟨w.alloc (.cells l.toArray T),w.heap.size,?_,H.push (Ext.alloc w _) (zaI w _) fun b hb=>by cases hb;exact Nat.le_refl _⟩
 simp[execOp,ywO,hx,Value.cells]
theorem zrN{l:LV}{z:Value}{e:Operand→Value}{dst:Option Tmp}{g:Option (Nat×Bool)}(H:HS B S w L)(hz:yfJ P T z)(hl:z.cells.toList=l):
  ∃w' b,(execOp e ⟨dst,.alloc T,ty,pos,aft,g⟩).run P w = .ok (.value (.pointer (some ⟨b,0,none⟩))) w'∧HS B S w' (.blk b l T::L):=by
 refine⟨w.alloc (.cells l.toArray T),w.heap.size,?_,H.push (Ext.alloc w _) (zaI w _) fun b hb=>by cases hb;exact Nat.le_refl _⟩
 simp[execOp,yeI hz,←hl]
theorem ywE{b i N:Nat}{cs:LV}{fz:Nat×Nat}(h:w.heap[b]? = some (.cells cs.toArray T fz))(hf:okfz fz N)(hi:i<N):w.frozen? ⟨b,i,none⟩=false:=by
 obtain⟨lo,hi'⟩:=fz
 simp only[World.frozen?,h]
 rcases hf with hf|hf
 ·injection hf with h1 h2;subst h1;subst h2;simp
 ·simp only at hf
  have:¬lo≤i:=by omega
  simp[this]
theorem ycX{b i:Nat}{v:Value}{cs:LV}{fz:Nat×Nat}(h:w.heap[b]? = some (.cells cs.toArray T fz)):
  (w.setCell ⟨b,i,none⟩ v).heap[b]? = some (.cells (cs.set i v).toArray T fz):=by
 have hlt:=zgG h
 have h':w.heap[b] = .cells cs.toArray T fz:=by simpa[Array.getElem?_eq_getElem hlt]using h
 show(w.heap.modify b _)[b]? = _
 rw[Array.getElem?_eq_getElem (by simpa using hlt),Array.getElem_modify_self,h']
 simp
theorem zeC{b i:Nat}{cs:LV}{fz:Nat×Nat}(h:w.heap[b]? = some (.cells cs.toArray T fz)):w.cell? ⟨b,i,none⟩=cs[i]?:=by
 simp[World.cell?,h]
theorem zfR{b o:Nat}{fz:Nat×Nat}:∀(vs:LV) (i:Nat) (w:World) (cs:LV),(∀v∈vs,v.oneCell'=true)→w.heap[b]? = some (.cells cs.toArray T fz)→okfz fz cs.length→o+i+vs.length≤cs.length →
  ∃w',(storeCells ⟨b,o,none⟩ vs i).run P w = .ok () w'∧w'.heap[b]? = some (.cells (lay cs (o+i) vs).toArray T fz)∧w'.heap.size=w.heap.size∧w'.os=w.os∧w'.tape=w.tape∧w'.output=w.output∧∀j,j≠b→w'.heap[j]? = w.heap[j]?
 | [], i, w, cs, _, h, _, _ => ⟨w, by simp [storeCells], by have : lay cs (o + i) [] = cs := by cases cs <;> rfl
                                                            rw[this];exact h,rfl,rfl,rfl,rfl,fun _ _=>rfl⟩
 |v::vs,i,w,cs,hone,h,hfz,hlen=>by
  have hi:o+i<cs.length:=by simp only[List.length_cons]at hlen;omega
  have hc:w.cell? ⟨b,o+i,none⟩=some cs[o+i]:=by rw[zeC h];simp[hi]
  have hst:=run_store P w ⟨b,o+i,none⟩ v .plain (hone v (by simp))
  rw[hc]at hst
  simp only[ywE h hfz hi,Bool.false_eq_true,if_false]at hst
  have h2:=ycX (i:=o+i) (v:=v) h
  have hlen2:o+(i+1)+vs.length≤(cs.set (o+i) v).length:=by rw[List.length_set];simp only[List.length_cons]at hlen;omega
  obtain⟨w',e,hb,hs,h4,h5,h6,h7⟩:=zfR vs (i+1) (w.setCell ⟨b,o+i,none⟩ v) (cs.set (o+i) v) (fun u hu=>hone u (by simp[hu])) h2 (by rw[List.length_set];exact hfz) hlen2
  refine⟨w',?_,?_,?_,h4,h5,h6,?_⟩
  ·show(do store ((⟨b,o,none⟩:Addr).add i) v;storeCells ⟨b,o,none⟩ vs (i+1):Sem Unit).run P w=_
   rw[zcJ,Sem.run_bind,hst]
   exact e
  ·rw[hb]
   congr 2
   apply congrArg List.toArray
   apply List.ext_getElem?
   intro j
   rw[zdN,zdN]
   simp only[List.length_cons,List.length_set]
   by_cases h1:o+(i+1)≤j∧j<o+(i+1)+vs.length∧j<cs.length
   ·rw[if_pos h1,if_pos (by omega),show j-(o+i)=(j-(o+(i+1)))+1 by omega];simp
   ·rw[if_neg h1]
    by_cases h3:j=o+i
    ·subst h3;rw[if_pos (by omega)];simp[hi]
    ·rw[if_neg (by omega),List.getElem?_set_ne (by omega)]
  ·rw[hs];simp[World.setCell]
  ·intro j hj;rw[h7 j hj];exact Below.heap_setCell _ _ _ _ (by simpa using hj)
theorem ztT{b o sz:Nat}{cs l:LV}{fz:Nat×Nat}(hs:∀w,(sizeOf T).run P w = .ok sz w)(hv:v.cells=l.toArray)(h:w.heap[b]? = some (.cells cs.toArray T' fz))(hf:okfz fz cs.length)(hlen:l.length=sz)(hone:∀u∈l,u.oneCell'=true)(hsz:o+sz≤cs.length):
  ∃w',(Instr.storeAt T (.pointer (some ⟨b,o,none⟩)) v).run P w = .ok () w'∧w'.heap[b]? = some (.cells (lay cs o l).toArray T' fz)∧w'.heap.size=w.heap.size∧w'.os=w.os∧w'.tape=w.tape∧w'.output=w.output∧∀j,j≠b→w'.heap[j]? = w.heap[j]?:=by
 obtain⟨w',e,hb,rest⟩:=zfR (P:=P) (o:=o) l 0 w cs hone h hf (by omega)
 refine⟨w',?_,hb,rest⟩
 simp[Instr.storeAt,Instr.sureAddr,storeVar,hs w,hv,hlen,e]
def zpZ(v:Value)(l:LV):Prop:=v.cells=l.toArray
theorem ztE(l:LV):zpZ (.agg l.toArray) l:=rfl
theorem cells_one(h:v.oneCell'=true):zpZ v [v]:=by
 unfold zpZ
 cases v<;>first|rfl|simp[Value.oneCell']at h
def TSz(P:Program)(T:TypeId)(sz:Nat):Prop:=∀w,(sizeOf T).run P w = .ok sz w
theorem TAgg.sz{sz:Nat}(h:TAgg P T sz):TSz P T sz:=h.2
theorem TOne.sz(h:TOne P T):TSz P T 1:=h.2
section
variable {e:Operand→Value}{dst:Option Tmp}{g:Option (Nat×Bool)}
theorem zlQ{sz b o k:Nat}{cs l:LV}(ts:TSz P T sz)(H:HS B S w L)(hp:e x = .pointer (some ⟨b,o,none⟩))(hk:lkR L k=some (.blk b cs T'))(hy:e y=v)(hv:zpZ v l)
  (hlen:l.length=sz) (hone:∀u∈l,u.oneCell'=true) (hsz:Nat.ble (o+sz) cs.length=true):
  ∃w',(execOp e ⟨none,.store T x y,ty,pos,aft,g⟩).run P w = .ok .skip w'∧HS B S w' (stR L k (.blk b (lay cs o l) T')):=by
 obtain⟨w',he,hb,hs,h4,h5,h6,h7⟩:=ztT ts hv (H.own k _ hk) (.inl rfl) hlen hone (Nat.le_of_ble_eq_true hsz)
 refine⟨w',?_,H.upd hk (by omega) h4 h5 h6 (fun i _ hne=>h7 i fun e=>hne (by rw[e];rfl)) hb fun b' hb'=>.inl hb'⟩
 simp only[execOp,hp,hy,Sem.run_bind,he,Result.andThen,Sem.run_pure]
theorem yzB{sz b i k M N c0:Nat}{cs rs l:LV}(ts:TSz P T sz)(H:HS B S w L)(hk:lkR L k=some (.osl (sl b 0 M c0) N sz cs rs T'))(hp:e x = .pointer (some ⟨b,0+i*sz,none⟩))(hi:i<N)(hy:e y=v)(hv:zpZ v l)
  (hlen:l.length=sz) (hone:∀u∈l,u.oneCell'=true):
  ∃w',(execOp e ⟨none,.store T x y,ty,pos,aft,g⟩).run P w = .ok .skip w'∧HS B S w' (stR L k (.osl (sl b 0 M c0) N sz (lay cs (i*sz) l) rs T')):=by
 rcases H.own k _ hk with⟨h,_⟩|⟨b',c',fz,hv',h1,h2,h3,h4,h5⟩
 ·cases h
 ·injection hv' with e1 e2 e3
  injection e1 with e1
  injection e1 with e1 _ _
  subst e1;have e2:=e2.symm;subst e2;subst e3
  have hm:i*sz+sz≤N*sz:=by
   have:=Nat.mul_le_mul_right sz (show i+1≤N by omega)
   rw[Nat.add_mul,Nat.one_mul]at this
   exact this
  obtain⟨w',he,hb,hs,g4,g5,g6,g7⟩:=ztT (o:=0+i*sz) ts hv h4 h5 hlen hone (by rw[List.length_append];omega)
  have hlay:lay (cs++rs) (0+i*sz) l=lay cs (i*sz) l++rs:=by
   apply List.ext_getElem?
   intro j
   rw[zdN,Nat.zero_add]
   by_cases hj:i*sz≤j∧j<i*sz+l.length
   ·rw[if_pos ⟨hj.1,hj.2,by rw[List.length_append];omega⟩,List.getElem?_append_left (by rw[zcH];omega),zdN,if_pos ⟨hj.1,hj.2,by omega⟩]
   ·rw[if_neg (by omega)]
    by_cases hj2:j<cs.length
    ·rw[List.getElem?_append_left hj2,List.getElem?_append_left (by rw[zcH];omega),zdN,if_neg (by omega)]
    ·rw[List.getElem?_append_right (by omega),List.getElem?_append_right (by rw[zcH];omega),zcH]
  refine⟨w',?_,H.upd hk (by omega) g4 g5 g6 (fun i _ hne=>g7 i fun e=>hne (by rw[e];rfl)) (.inr ⟨b,c0,fz,rfl,h1,by rw[zcH];exact h2,?_,by rw[←hlay];exact hb,?_⟩) fun b' hb'=>.inl hb'⟩
  ·simp only[execOp,hp,hy,Sem.run_bind,he,Result.andThen,Sem.run_pure]
  ·rw[List.length_append,zcH,←List.length_append];exact h3
  ·rw[List.length_append,zcH,←List.length_append];exact h5
theorem ztS{sz b o:Nat}{cs l:LV}{fz:Nat×Nat}(ty:TAgg P T sz)(h:w.heap[b]? = some (.cells cs.toArray T' fz))(hl:piece cs o sz=l)(hsz:o+sz≤cs.length):
  (Instr.loadAt T (.pointer (some ⟨b,o,none⟩))).run P w = .ok (.agg l.toArray) w:=by
 have hlen:l.length=sz:=by rw[←hl];exact zgH hsz
 have:=run_loadCells_list (P:=P) w ⟨b,o,none⟩ l (fun j v hj=>by
  rw[zcJ,zeC h,←hj,←hl,zaK]
  have:j<sz:=by rw[←hlen];exact(List.getElem?_eq_some_iff.1 hj).1
  simp[this])
 rw[hlen]at this
 simp[Instr.loadAt,Instr.sureAddr,loadVar,ty.1 w,ty.2 w,this]
theorem zoZ{b o:Nat}{cs:LV}{fz:Nat×Nat}(ty:TOne P T)(h:w.heap[b]? = some (.cells cs.toArray T' fz))(hl:piece cs o 1=[v]):
  (Instr.loadAt T (.pointer (some ⟨b,o,none⟩))).run P w = .ok v w:=by
 have hv:cs[o]? = some v:=by
  rw[zaK]at hl
  have:=congrArg (·[0]?) hl
  simpa using this
 simp[Instr.loadAt,Instr.sureAddr,loadVar,ty.1 w,zeC h,hv]
theorem ypR{sz b o k:Nat}{cs l:LV}(tg:TAgg P T sz)(H:HS B S w L)(hp:e x = .pointer (some ⟨b,o,none⟩))(hk:lkR L k=some (.blk b cs T'))(hl:piece cs o sz=l)(hsz:Nat.ble (o+sz) cs.length=true):
  (execOp e ⟨dst,.load T x,ty,pos,aft,g⟩).run P w = .ok (.value (.agg l.toArray)) w:=by
 simp only[execOp,hp,Sem.run_bind,ztS tg (H.own k _ hk) hl (Nat.le_of_ble_eq_true hsz),Result.andThen,Sem.run_pure]
theorem zfF{b o k:Nat}{cs:LV}(tg:TOne P T)(H:HS B S w L)(hp:e x = .pointer (some ⟨b,o,none⟩))(hk:lkR L k=some (.blk b cs T'))(hv:piece cs o 1=[v]):
  (execOp e ⟨dst,.load T x,ty,pos,aft,g⟩).run P w = .ok (.value v) w:=by
 simp only[execOp,hp,Sem.run_bind,zoZ tg (H.own k _ hk) hv,Result.andThen,Sem.run_pure]
theorem zdK{b p o:Nat}{cs:LV}(tg:TOne P T)(hS:Sub S w)(hp:e x = .pointer (some ⟨b,p+o,none⟩))(hc:CellAt S b p cs)(hv:piece cs o 1=[v]):
  (execOp e ⟨dst,.load T x,ty,pos,aft,g⟩).run P w = .ok (.value v) w:=by
 obtain⟨ds,E',fz,h1,h2,h3⟩:=hc
 have h4:o+1≤cs.length:=by
  have:=congrArg List.length hv
  rw[zaK]at this
  simp at this
  omega
 have h5:piece ds (p+o) 1=[v]:=by rw[←hv,←h3,zlL _ _ _ _ _ h4]
 simp only[execOp,hp,Sem.run_bind,zoZ tg (hS _ _ h1) h5,Result.andThen,Sem.run_pure]
theorem zaP{sz b o i N c:Nat}{k:IntKind}{a:Int}(hu:P.underlying T=some (.slice E))(hs:TSz P E sz)(hx:e x=v)(hv:v=sl b o N c)(hy:e y = .int k a)(ha:a=(i:Int))(hi:i<N):
  (execOp e ⟨dst,.indexAddr T x y,ty,pos,aft,g⟩).run P w = .ok (.value (.pointer (some ⟨b,o+i*sz,none⟩))) w:=by
 subst ha;subst hv
 simp[execOp,Instr.indexAt,hx,hy,sl,asIntOf,Go.underlying,hu,hs w,hi,zcJ]
theorem HS.ownAt(H:HS B S w L){k N sz i:Nat}{cs rs:LV}(hk:lkR L k=some (.osl v N sz cs rs T))(hi:i<N):∃b c,v=sl b 0 N c:=by
 rcases H.own k _ hk with⟨_,h,_⟩|⟨b,c,fz,h,_⟩
 ·omega
 ·exact⟨b,c,h⟩
theorem HS.ownV{b k M N sz c:Nat}{cs rs:LV}(H:HS B S w L)(hk:lkR L k=some (.osl (sl b 0 M c) N sz cs rs T)):sl b 0 M c=sl b 0 N c:=by
 rcases H.own k _ hk with⟨h,_⟩|⟨b',c',fz,h,_⟩
 ·cases h
 ·injection h with e1 e2 e3
  rw[e2]
theorem ziO{b k M N i c0:Nat}{cs rs:LV}(tg:TOne P T)(H:HS B S w L)(hk:lkR L k=some (.osl (sl b 0 M c0) N 1 cs rs T'))(hp:e x = .pointer (some ⟨b,0+i*1,none⟩))(hi:i<N)(hl:piece cs (i*1) 1=[v]):
  (execOp e ⟨dst,.load T x,ty,pos,aft,g⟩).run P w = .ok (.value v) w:=by
 rcases H.own k _ hk with⟨h,_⟩|⟨b',c',fz,hv',h1,h2,h3,h4,h5⟩
 ·cases h
 ·injection hv' with e1 e2 e3
  injection e1 with e1
  injection e1 with e1 _ _
  subst e1;have e2:=e2.symm;subst e2;subst e3
  have hl':piece (cs++rs) (0+i*1) 1=[v]:=by
   rw[←hl,zaK,zaK,List.drop_append_of_le_length (by omega),List.take_append_of_le_length (by rw[List.length_drop];omega)]
   simp
  simp only[execOp,hp,Sem.run_bind,zoZ tg h4 hl',Result.andThen,Sem.run_pure]
theorem ypL{sz N:Nat}{cs:LV}(hu:P.underlying T=some (.slice E))(hx:e x=v)(h:SlW w v N sz cs):
  (execOp e ⟨dst,.call ⟨.builtin .len,#[x],#[T]⟩,ty,pos,aft,g⟩).run P w = .ok (.value (.int .i64 (N:Int))) w:=by
 rcases h with⟨⟨a,rfl⟩,rfl,_⟩|⟨b,o,c,ds,T',fz,rfl,_⟩<;>exact xdF hu hx
theorem RdS.len{α:Type}[Rp α]{xs:List α}(h:RdS S v xs)(hS:Sub S w):∃cs,SlW w v xs.length (Rp.sz α) cs:=by
 obtain⟨cs,h1,_⟩:=h
 exact⟨cs,h1.w hS⟩
theorem r_lenR'{α:Type}[Rp α]{xs:List α}(hu:P.underlying T=some (.slice E))(hx:e x=v)(h:RdS S v xs)(hS:Sub S w):
  (execOp e ⟨dst,.call ⟨.builtin .len,#[x],#[T]⟩,ty,pos,aft,g⟩).run P w = .ok (.value (.int .i64 (xs.length:Int))) w:=by
 obtain⟨cs,h1⟩:=h.len hS
 exact ypL hu hx h1
theorem zwZ{sz N N' k:Nat}{cs rs:LV}(hu:P.underlying T=some (.slice E))(hx:e x=v)(H:HS B S w L)(hk:lkR L k=some (.osl v N sz cs rs T'))(hN:N=N'):
  (execOp e ⟨dst,.call ⟨.builtin .len,#[x],#[T]⟩,ty,pos,aft,g⟩).run P w = .ok (.value (.int .i64 (N':Int))) w:=by
 subst hN;exact ypL hu hx (H.slW hk)
theorem gs_at(k:Nat){l:List Oper}(h:∀K:FM→World→Prop,(∀m w,wpList P ops Q (l.drop k) (fr n m) w→K m w)→∀R:List Oper,(∀m w,K m w→wpList P ops Q R (fr n m) w)→wpList P ops Q (l.take k++R) (fr n m) w):wpList P ops Q l (fr n m) w:=by
 have h2:=h (fun m w=>wpList P ops Q (l.drop k) (fr n m) w) (fun _ _ h=>h) (l.drop k) (fun _ _ h=>h)
 rw[List.take_append_drop]at h2
 exact h2
theorem ziU{ol:List Oper}{n:Nat}{m:FM}{j t:Nat}{b:Bool}{o:Oper}(h1:lko ol j=some o)(h2:o.dst=some t)(h3:evO n m (.tmp t) = .bool b):gvl ol n m j=some b:=by
 unfold gvl;rw[h1]
 obtain⟨dst,_,_,_,_,_⟩:=o
 simp only at h2
 subst h2
 simp only[gvo,h3]
theorem yjR{D:List Nat}{m1 m2:FM}{X:Nat→Value}(hk:∀t,look m1 t=look m2 t)(h:∀t,has D t=false→look m2 t=X t):∀t,has D t=false→look m1 t=X t:=fun t ht=>(hk t).trans (h t ht)
theorem kN{D:List Nat}{m1 m2 m:FM}{X:Nat→Value}(k:∀t,look m1 t=look m2 t)(h:∀t,has D t=false→look m2 t=X t)(e:(∀t,has D t=false→look m1 t=X t)→(∀t,has D t=false→look m t=X t):=by intro h;(repeat (refine zqF rfl ?_));exact h):∀t,has D t=false→look m t=X t:=e (yjR k h)
theorem ytB{α:Type}[Rp α]{xs:List α}{sz p h:Nat}{a b:Int}{k k':IntKind}(hu:P.underlying T=some (.slice E))(hs:TSz P E sz)(hx:e x=v)(hz:e lo = .int k' b)(hy:e hi = .int k a)(hb:b=(p:Int))(ha:a=(h:Int))(hr:RdS S v xs)(hp:p≤h)(hh:h≤xs.length):
  (execOp e ⟨dst,.slice T x (some lo) (some hi) none,ty,pos,aft,g⟩).run P w = .ok (.value (subN v sz p h)) w:=by
 obtain⟨cs,h1,_⟩:=hr
 rcases h1 with⟨⟨a0,rfl⟩,h2,_⟩|⟨b',o,c,ds,T',fz,rfl,h3,_⟩
 ·obtain rfl:h=0:=by omega
  obtain rfl:p=0:=by omega
  simp[execOp,Instr.sliceAt,Go.underlying,hu,Instr.slice,Instr.sliceBounds,hx,hy,hz,zbI ha (Nat.le_refl _),zbI hb (Nat.le_refl _),hs w,subN]
 ·simp[execOp,Instr.sliceAt,Go.underlying,hu,Instr.slice,Instr.sliceBounds,hx,hy,hz,sl,zbI ha (Nat.le_trans hh h3),zbI hb hp,hs w,subN]
theorem ywL{α:Type}[Rp α]{xs:List α}{sz p:Nat}{b:Int}{k':IntKind}(hu:P.underlying T=some (.slice E))(hs:TSz P E sz)(hx:e x=v)(hz:e lo = .int k' b)(hb:b=(p:Int))(hr:RdS S v xs)(hp:p≤xs.length):
  (execOp e ⟨dst,.slice T x (some lo) none none,ty,pos,aft,g⟩).run P w = .ok (.value (subN v sz p xs.length)) w:=by
 obtain⟨cs,h1,_⟩:=hr
 rcases h1 with⟨⟨a0,rfl⟩,h2,_⟩|⟨b',o,c,ds,T',fz,rfl,h3,_⟩
 ·obtain rfl:p=0:=by omega
  simp[execOp,Instr.sliceAt,Go.underlying,hu,Instr.slice,Instr.sliceBounds,hx,hz,zbI hb (Nat.le_refl _),hs w,subN,h2]
 ·simp[execOp,Instr.sliceAt,Go.underlying,hu,Instr.slice,Instr.sliceBounds,hx,hz,sl,zbI hb hp,hs w,subN]
theorem ypP{α:Type}[Rp α]{xs:List α}{sz h:Nat}{a:Int}{k:IntKind}(hu:P.underlying T=some (.slice E))(hs:TSz P E sz)(hx:e x=v)(hy:e hi = .int k a)(ha:a=(h:Int))(hr:RdS S v xs)(hh:h≤xs.length):
  (execOp e ⟨dst,.slice T x none (some hi) none,ty,pos,aft,g⟩).run P w = .ok (.value (subN v sz 0 h)) w:=by
 obtain⟨cs,h1,_⟩:=hr
 rcases h1 with⟨⟨a0,rfl⟩,h2,_⟩|⟨b',o,c,ds,T',fz,rfl,h3,_⟩
 ·obtain rfl:h=0:=by omega
  simp[execOp,Instr.sliceAt,Go.underlying,hu,Instr.slice,Instr.sliceBounds,hx,hy,zbI ha (Nat.le_refl _),hs w,subN]
 ·simp[execOp,Instr.sliceAt,Go.underlying,hu,Instr.slice,Instr.sliceBounds,hx,hy,sl,zbI ha (Nat.le_trans hh h3),hs w,subN]
theorem ytJ{N:Nat}{T2:TypeId}{l:Bs}(hs:P.underlying T=some (.slice E))(he:P.underlying E=some (.int .u8))(hd:P.underlying T2=some .string)(hx:e x=v)(hr:SlW w v N 1 (u8s l)):
  (execOp e ⟨dst,.convert T T2 x,ty,pos,aft,g⟩).run P w = .ok (.value (str l)) w:=by
 have key:(convert T T2 v).run P w = .ok (str l) w:=by
  have hl:l.length=N:=by have:=hr.len;rw[zdH]at this;omega
  rcases hr with⟨⟨a0,rfl⟩,_,h2⟩|⟨b,o,c,cs,T',fz,rfl,h3,h4,h5,h6⟩
  ·have:l=[]:=by simpa[u8s]using h2
   subst this
   rw[run_convert_bytes_string w T T2 E a0 0 0 hs he hd]
   cases a0 with
   |none=>simp[Conv.bytesToString];rfl
   |some a0=>simp[Conv.bytesToString,loadCells];rfl
  ·have h7:=run_convert_bytes_arg (P:=P) w T E hs he b o N c (l.map fun b=>(b.toNat:Int)) (by simpa using hl) (fun i hi=>by
    rw[zeC h4]
    rw[zaK,Nat.mul_one]at h6
    have h8:((cs.drop o).take N)[i]? = (u8s l)[i]?:=by rw[h6]
    rw[List.getElem?_take,if_pos hi,List.getElem?_drop]at h8
    rw[h8]
    have hi':i<l.length:=by omega
    simp[u8s,hi']) T2 hd
   rw[h7,yuH]
 simp[execOp,hx,key]
theorem r_strS{T2:TypeId}{l:Bs}(hs:P.underlying T=some (.slice E))(he:P.underlying E=some (.int .u8))(hd:P.underlying T2=some .string)(hx:e x=v)(hr:RdS S v l)(hS:Sub S w):
  (execOp e ⟨dst,.convert T T2 x,ty,pos,aft,g⟩).run P w = .ok (.value (str l)) w:=by
 obtain⟨cs,h1,h2⟩:=hr
 rw[RL.is_u8s h2]at h1
 exact ytJ hs he hd hx (h1.w hS)
theorem ykN{N k:Nat}{cs rs:LV}{T2:TypeId}{l:Bs}(hs:P.underlying T=some (.slice E))(he:P.underlying E=some (.int .u8))(hd:P.underlying T2=some .string)(hx:e x=v)(H:HS B S w L)(hk:lkR L k=some (.osl v N 1 cs rs T'))(hr:RL S cs l):
  (execOp e ⟨dst,.convert T T2 x,ty,pos,aft,g⟩).run P w = .ok (.value (str l)) w:=by
 have h1:=H.slW hk
 rw[RL.is_u8s hr]at h1
 exact ytJ hs he hd hx h1
theorem yhI{T2:TypeId}{l:Bs}{ud:TypeDesc}(hs:P.underlying T=some ud)(hd:P.underlying T2=some (.slice E))(he:P.underlying E=some (.int .u8))(H:HS B S w L)(hx:e x=str l):
  ∃w' v,(execOp e ⟨dst,.convert T T2 x,ty,pos,aft,g⟩).run P w = .ok (.value v) w'∧∃rs,HS B S w' (.osl v l.length 1 (u8s l) rs E::L):=by
 have hrun:=Lib.run_convert_string_bytes (P:=P) w T T2 E ⟨l.toArray⟩ hs hd he
 have hsz:(⟨l.toArray⟩:ByteArray).size=l.length:=ziG l
 rw[hsz]at hrun
 have hge:=grownCap_ge w l.length 0 E
 have hc:Lib.bytesCells w E ⟨l.toArray⟩=(u8s l++List.replicate (grownCap w l.length 0 E-l.length) (Value.int .u8 0)).toArray:=by
  unfold Lib.bytesCells
  rw[hsz]
  apply Array.ext'
  simp[u8s]
 have hnew:=Lib.bytesWorld_at_new w E ⟨l.toArray⟩
 have hlen:(Lib.bytesCells w E ⟨l.toArray⟩).size=grownCap w l.length 0 E:=by rw[hc];simp[u8s];omega
 refine⟨Lib.bytesWorld w E ⟨l.toArray⟩,sl w.heap.size 0 l.length (grownCap w l.length 0 E),by simp only[execOp,hx,str,Sem.run_bind,hrun,Result.andThen_ok,Sem.run_pure],List.replicate (grownCap w l.length 0 E-l.length) (Value.int .u8 0),?_⟩
 refine H.push (w':=Lib.bytesWorld w E ⟨l.toArray⟩) ?_ (.inr ⟨w.heap.size,grownCap w l.length 0 E,_,rfl,hge,by simp[u8s],by simp[u8s];omega,by rw[hnew,hc],.inr ?_⟩) fun b hb=>by cases hb;exact Nat.le_refl _
 ·refine⟨?_,?_,?_,by rw[Lib.bytesWorld_size];omega,fun k hk=>Lib.bytesWorld_at_old w E _ k hk⟩<;>simp[Lib.bytesWorld,World.freeze,World.alloc,World.drew,-World.alloc_eq,-World.drew_eq]<;>split<;>rfl
 ·simp[u8s]
end
end
end
section
structure TSn (P:Program) (T E:TypeId) (z:Value) (zl:LV) (nb sz:Nat):Prop where
 und:P.underlying T=some (.slice E)
 info:∃i,P.info? E=some i∧i.zero=some z∧i.size=sz∧i.bytes=nb
 cells:z.cells=zl.toArray
 len:zl.length=sz
 pos:0<sz
 small:nb≤2048
theorem TSn.mk'{P:Program}{T E:TypeId}{z:Value}{zl:LV}{nb sz:Nat}(h1:P.underlying T=some (.slice E))(h2:(P.info? E).map (fun i=>(i.zero,i.size,i.bytes))=some (some z,sz,nb))(h3:z.cells=zl.toArray)(h4:zl.length=sz)(h5:Nat.blt 0 sz=true)(h6:Nat.ble nb 2048=true):TSn P T E z zl nb sz:=by
 refine⟨h1,?_,h3,h4,by rw[zjE]at h5;simpa using h5,Nat.le_of_ble_eq_true h6⟩
 cases hi:P.info? E with
 |none=>simp[hi]at h2
 |some i=>
  simp only[hi,Option.map_some,Option.some.injEq,Prod.mk.injEq]at h2
  exact⟨i,rfl,h2.1,h2.2.1,h2.2.2⟩
theorem TSn.tsz{P:Program}{T E:TypeId}{z:Value}{zl:LV}{nb sz:Nat}(h:TSn P T E z zl nb sz):TSz P E sz:=fun w=>by
 obtain⟨i,h1,_,h3,_⟩:=h.info
 simp[sizeOf,typeInfo,h1,h3]
theorem zqE(z:Array Value)(zl:LV)(hz:z=zl.toArray):∀n,(Builtin.zeroCells z n).toList.length=n*zl.length:=fun n=>by
 rw[Array.length_toList,size_zeroCells,hz];simp
section
variable {P:Program}{w:World}{B:Bas}{S:Mem}{L:List Res}{e:Operand→Value}{dst:Option Tmp}{g:Option (Nat×Bool)}
variable {ty:TypeId}{pos:String}{aft:Array Edge}{v v2 z:Value}{x y:Operand}{T E:TypeId}{nb sz N M k:Nat}{zl cs rs ncs:LV}
theorem SlW.first{n:Nat}(h:SlW w v2 n sz ncs):(Builtin.lenOf v2).run P w = .ok n w∧(Builtin.firstCells sz n v2).run P w = .ok ncs.toArray w:=by
 rcases h with⟨⟨a,rfl⟩,rfl,rfl⟩|⟨b,o,c,ds,T',fz,rfl,h1,h2,h3,h4⟩
 ·refine⟨by simp[Builtin.lenOf],?_⟩
  cases a with
  |none=>simp[run_firstCells_none]
  |some a=>exact run_firstCells_some (P:=P) w sz 0 a 0 0 [] (by simp) fun j u hj=>by simp at hj
 ·refine⟨by simp[Builtin.lenOf],?_⟩
  have hl:ncs.length=n*sz:=by rw[←h4];exact zgH h3
  refine run_firstCells_some (P:=P) w sz n ⟨b,o,none⟩ n c ncs hl fun j u hj=>?_
  have hjl:=(List.getElem?_eq_some_iff.1 hj).1
  rw[zcJ,zeC h2]
  rw[←h4,zaK,List.getElem?_take,if_pos (by omega),List.getElem?_drop]at hj
  exact hj
theorem zuH(hT:TSn P T E z zl nb sz)(H:HS B S w L)(hk:lkR L k=some (.osl v N sz cs rs E))(hr:SlW w v2 M sz ncs)(h1:∀u∈ncs,u.oneCell'=true)(hb:N+M≤68719476736):
  ∃w' v' rs',(Builtin.append_ #[T,T] ty #[v,v2]).run P w = .ok v' w'∧HS B S w' (stR L k (.osl v' (N+M) sz (cs++ncs) rs' E)):=by
 obtain⟨i,hi1,hi2,hi3,hi4⟩:=hT.info
 have hpos:=hT.pos
 have hsmall:=hT.small
 have hbound:(N+M)*nb≤140737488355328:=by
  calc (N+M)*nb≤68719476736*2048:=Nat.mul_le_mul hb hsmall
   _=140737488355328:=by decide
 obtain⟨hf1,hf2⟩:=hr.first (P:=P)
 have hncs:=hr.len
 have hzl:∀n,(Builtin.zeroCells z.cells n).toList.length=n*sz:=fun n=>by rw[zqE _ _ hT.cells,hT.len]
 rcases H.own k _ hk with⟨rfl,rfl,rfl,rfl⟩|⟨b,c,fz,rfl,g1,g2,g3,g4,g5⟩
 ·by_cases hM:M=0
  ·subst hM
   have hn:ncs=[]:=List.eq_nil_of_length_eq_zero (by omega)
   subst hn
   refine⟨w,.slice none 0 0,[],?_,H.upd hk (Nat.le_refl _) rfl rfl rfl (fun _ _ _=>rfl) (.inl ⟨rfl,rfl,rfl,rfl⟩) fun b hb=>by cases hb⟩
   simp[Builtin.append_,Go.underlying,hT.und,sizeOf,typeInfo,hi1,hi3,hf1,hf2]
  ·rcases hr with⟨_,h,_⟩|⟨b2,o2,c2,cs2,T2,fz2,rfl,hc2,hb2,ho2,hp2⟩
   ·exact absurd h hM
   ·have hnews:∀j u,ncs[j]? = some u→w.cell? ((⟨b2,o2,none⟩:Addr).add j)=some u:=fun j u hj=>by
     have hjl:=(List.getElem?_eq_some_iff.1 hj).1
     rw[zcJ,zeC hb2]
     rw[←hp2,zaK,List.getElem?_take,if_pos (by omega),List.getElem?_drop]at hj
     exact hj
    have hrun:=run_append_nil (P:=P) w T ty E i z hT.und hi1 hi2 ⟨b2,o2,none⟩ M c2 ncs (by rw[hi3];exact hncs) hnews (by omega) (by omega) (by rw[hi4];rw[Nat.zero_add]at hbound;omega)
    have hge:=grownCap_ge w M 0 E
    generalize hG:grownCap w M 0 E=G at hrun hge
    have hZl:=hzl (G-M)
    generalize hZ:Builtin.zeroCells z.cells (G-M)=Z at hrun hZl
    have hcells:ncs.toArray++Z=(ncs++Z.toList).toArray:=by apply Array.ext';simp
    rw[hcells]at hrun
    refine⟨_,_,Z.toList,hrun,?_⟩
    refine H.upd hk (by simp) rfl rfl rfl (fun j hj _=>?_) (.inr ⟨w.heap.size,G,(0,0),?_,by omega,?_,?_,?_,.inl rfl⟩) fun b hb=>?_
    ·exact(Ext.trans (Ext.drew w) (Ext.alloc w.drew _)).block j hj
    ·rw[Nat.zero_add]
    ·simp[hncs]
    ·refine Nat.le_of_eq (Eq.symm ?_);rw[List.nil_append,List.length_append,hncs,hZl,←Nat.add_mul];congr 1;omega
    ·rw[List.nil_append];exact zaI w.drew _
    ·cases hb;exact .inr (Nat.le_refl _)
 ·by_cases hroom:N+M≤c
  ·have hcap:N*sz+M*sz≤c*sz:=by rw[←Nat.add_mul];exact Nat.mul_le_mul_right sz hroom
   obtain⟨w',he,hb',hs,q4,q5,q6,q7⟩:=zfR (P:=P) (b:=b) (o:=N*sz) ncs 0 w (cs++rs) h1 g4 g5 (by omega)
   have hlay:lay (cs++rs) (N*sz+0) ncs=cs++ncs++rs.drop ncs.length:=by
    apply List.ext_getElem?
    intro j
    rw[List.length_append]at g3
    rw[zdN,Nat.add_zero,List.append_assoc]
    by_cases hj:j<N*sz
    ·rw[if_neg (by omega),List.getElem?_append_left (by omega),List.getElem?_append_left (by omega)]
    ·by_cases hj2:j<N*sz+ncs.length
     ·rw[if_pos ⟨by omega,hj2,by rw[List.length_append];omega⟩,List.getElem?_append_right (by omega),List.getElem?_append_left (by omega),g2]
     ·rw[if_neg (by omega),List.getElem?_append_right (by omega),List.getElem?_append_right (by omega),List.getElem?_append_right (by omega),List.getElem?_drop]
      congr 1;omega
   rw[hlay]at hb'
   refine⟨w',sl b 0 (N+M) c,rs.drop ncs.length,?_,H.upd hk (by omega) q4 q5 q6 (fun j _ hne=>q7 j fun e=>hne (by rw[e];rfl)) (.inr ⟨b,c,fz,rfl,hroom,?_,?_,hb',?_⟩) fun b' hb'=>.inl hb'⟩
   ·simp[Builtin.append_,Go.underlying,hT.und,sizeOf,typeInfo,hi1,hi3,hf1,hf2,hroom,sl,zcJ,he]
   ·rw[List.length_append,g2,hncs,Nat.add_mul]
   ·rw[List.length_append]at g3
    simp only[List.length_append,List.length_drop]
    omega
   ·have:(cs++ncs++rs.drop ncs.length).length=(cs++rs).length:=by
     rw[List.length_append]at g3
     simp only[List.length_append,List.length_drop]
     omega
    rw[this];exact g5
  ·rcases hr with⟨_,h,_⟩|⟨b2,o2,c2,cs2,T2,fz2,rfl,hc2,hb2,ho2,hp2⟩
   ·subst h;omega
   ·have hnews:∀j u,ncs[j]? = some u→w.cell? ((⟨b2,o2,none⟩:Addr).add j)=some u:=fun j u hj=>by
     have hjl:=(List.getElem?_eq_some_iff.1 hj).1
     rw[zcJ,zeC hb2]
     rw[←hp2,zaK,List.getElem?_take,if_pos (by omega),List.getElem?_drop]at hj
     exact hj
    have holds:∀j u,cs[j]? = some u→w.cell? ((⟨b,0,none⟩:Addr).add j)=some u:=fun j u hj=>by
     rw[zcJ,zeC g4,Nat.zero_add,List.getElem?_append_left (List.getElem?_eq_some_iff.1 hj).1]
     exact hj
    have hfit:=growslice_fits (bytes:=nb) (Nat.lt_of_not_le hroom) hbound
    have hrun:=run_append_grow (P:=P) w T ty E i z hT.und hi1 hi2 ⟨b,0,none⟩ N c cs (by rw[hi3];exact g2) holds ⟨b2,o2,none⟩ M c2 ncs (by rw[hi3];exact hncs) hnews (Nat.lt_of_not_le hroom) (by omega) (by rw[hi4];exact hfit)
    have hge:=grownCap_ge w (N+M) c E
    generalize hG:grownCap w (N+M) c E=G at hrun hge
    have hZl:=hzl (G-(N+M))
    generalize hZ:Builtin.zeroCells z.cells (G-(N+M))=Z at hrun hZl
    have hcells:cs.toArray++ncs.toArray++Z=(cs++ncs++Z.toList).toArray:=by apply Array.ext';simp
    rw[hcells]at hrun
    refine⟨_,_,Z.toList,hrun,?_⟩
    refine H.upd hk (by simp) rfl rfl rfl (fun j hj _=>?_) (.inr ⟨w.heap.size,G,(0,0),rfl,hge,?_,?_,?_,.inl rfl⟩) fun b hb=>?_
    ·exact(Ext.trans (Ext.drew w) (Ext.alloc w.drew _)).block j hj
    ·rw[List.length_append,g2,hncs,Nat.add_mul]
    ·refine Nat.le_of_eq (Eq.symm ?_);simp only[List.length_append,hZl,g2,hncs,←Nat.add_mul];congr 1;omega
    ·exact zaI w.drew _
    ·cases hb;exact .inr (Nat.le_refl _)
theorem ypX(hT:TSn P T E z zl nb sz)(H:HS B S w L)(hx:e x=v)(hk:lkR L k=some (.osl v N sz cs rs E))(hy:e y=v2)(hr:SlW w v2 M sz ncs)(h1:∀u∈ncs,u.oneCell'=true)(hb:N+M≤68719476736):
  ∃w' v' rs',(execOp e ⟨dst,.call ⟨.builtin .append,#[x,y],#[T,T]⟩,ty,pos,aft,g⟩).run P w = .ok (.value v') w'∧HS B S w' (stR L k (.osl v' (N+M) sz (cs++ncs) rs' E)):=by
 obtain⟨w',v',rs',hrun,H'⟩:=zuH (ty:=ty) hT H hk hr h1 hb
 exact⟨w',v',rs',by simp[execOp,resolve,invoke,builtin,hx,hy,hrun],H'⟩
theorem zrW{T2:TypeId}{l:Bs}(hT:TSn P T E z zl nb 1)(h2:P.underlying T2=some .string)(H:HS B S w L)(hk:lkR L k=some (.osl v N 1 cs rs E))(hb:N+l.length≤68719476736):
  ∃w' v' rs',(Builtin.append_ #[T,T2] ty #[v,str l]).run P w = .ok v' w'∧HS B S w' (stR L k (.osl v' (N+l.length) 1 (cs++u8s l) rs' E)):=by
 obtain⟨i,hi1,hi2,hi3,hi4⟩:=hT.info
 have hsmall:=hT.small
 have hbound:(N+l.length)*nb≤140737488355328:=by
  calc (N+l.length)*nb≤68719476736*2048:=Nat.mul_le_mul hb hsmall
   _=140737488355328:=by decide
 have hsz:(⟨l.toArray⟩:ByteArray).size=l.length:=ziG l
 have hmap:(Array.map (fun b:UInt8=>Value.int IntKind.u8 (b.toNat:Int)) (⟨l.toArray⟩:ByteArray).data)=(u8s l).toArray:=by simp[u8s]
 have hfst:(Builtin.firstCells 1 l.length (str l)).run P w = .ok (u8s l).toArray w:=by
  have hx:(⟨l.toArray⟩:ByteArray).extract 0 l.length=⟨l.toArray⟩:=by rw[zlE];simp
  simp only[Builtin.firstCells,hx,Sem.run_pure]
  rw[←hmap]
 have hlen:(Builtin.lenOf (str l)).run P w = .ok l.length w:=by simp[Builtin.lenOf,hsz]
 have hzl:∀n,(Builtin.zeroCells z.cells n).toList.length=n:=fun n=>by rw[zqE _ _ hT.cells,hT.len,Nat.mul_one]
 rcases H.own k _ hk with⟨rfl,rfl,rfl,rfl⟩|⟨b,c,fz,rfl,g1,g2,g3,g4,g5⟩
 ·by_cases hM:l.length=0
  ·have hn:l=[]:=List.eq_nil_of_length_eq_zero hM
   subst hn
   refine⟨w,.slice none 0 0,[],?_,H.upd hk (Nat.le_refl _) rfl rfl rfl (fun _ _ _=>rfl) (.inl ⟨rfl,rfl,rfl,rfl⟩) fun b hb=>by cases hb⟩
   have h5:=hlen;have h6:=hfst
   simp only[List.length_nil]at h5 h6
   simp[Builtin.append_,Go.underlying,hT.und,h2,sizeOf,typeInfo,hi1,hi3,h5,h6]
  ·have hrun:=run_append_nil_string (P:=P) w T T2 ty E i z hT.und h2 hi1 hi2 ⟨l.toArray⟩ (by rw[hsz];omega) (by rw[hsz];omega) (by rw[hi4,hsz];rw[Nat.zero_add]at hbound;omega)
   rw[hsz]at hrun
   have hge:=grownCap_ge w l.length 0 E
   generalize hG:grownCap w l.length 0 E=G at hrun hge
   have hZl:=hzl (G-l.length)
   generalize hZ:Builtin.zeroCells z.cells (G-l.length)=Z at hrun hZl
   have hcells:(Array.map (fun b:UInt8=>Value.int IntKind.u8 (b.toNat:Int)) (⟨l.toArray⟩:ByteArray).data)++Z=(u8s l++Z.toList).toArray:=by rw[hmap];apply Array.ext';simp
   rw[hcells]at hrun
   refine⟨_,_,Z.toList,hrun,?_⟩
   refine H.upd hk (by simp) rfl rfl rfl (fun j hj _=>?_) (.inr ⟨w.heap.size,G,(0,0),?_,by omega,?_,?_,?_,.inl rfl⟩) fun b hb=>?_
   ·exact(Ext.trans (Ext.drew w) (Ext.alloc w.drew _)).block j hj
   ·rw[Nat.zero_add]
   ·simp[zdH]
   ·rw[List.nil_append,List.length_append,hZl,zdH];omega
   ·rw[List.nil_append];exact zaI w.drew _
   ·cases hb;exact .inr (Nat.le_refl _)
 ·by_cases hroom:N+l.length≤c
  ·obtain⟨w',he,hb',hs,q4,q5,q6,q7⟩:=zfR (P:=P) (b:=b) (o:=N) (u8s l) 0 w (cs++rs) (xaG l) g4 g5 (by rw[zdH];omega)
   have hlay:lay (cs++rs) (N+0) (u8s l)=cs++u8s l++rs.drop l.length:=by
    apply List.ext_getElem?
    intro j
    rw[List.length_append]at g3
    rw[zdN,Nat.add_zero,List.append_assoc,zdH]
    by_cases hj:j<N
    ·rw[if_neg (by omega),List.getElem?_append_left (by omega),List.getElem?_append_left (by omega)]
    ·by_cases hj2:j<N+l.length
     ·rw[if_pos ⟨by omega,hj2,by rw[List.length_append];omega⟩,List.getElem?_append_right (by omega),List.getElem?_append_left (by rw[zdH];omega),g2,Nat.mul_one]
     ·rw[if_neg (by omega),List.getElem?_append_right (by omega),List.getElem?_append_right (by omega),List.getElem?_append_right (by rw[zdH];omega),List.getElem?_drop]
      congr 1;rw[zdH];omega
   rw[hlay]at hb'
   have hcap:(cs++u8s l++rs.drop l.length).length=(cs++rs).length:=by
    rw[List.length_append]at g3
    simp only[List.length_append,List.length_drop,zdH]
    omega
   refine⟨w',sl b 0 (N+l.length) c,rs.drop l.length,?_,H.upd hk (by omega) q4 q5 q6 (fun j _ hne=>q7 j fun e=>hne (by rw[e];rfl)) (.inr ⟨b,c,fz,rfl,hroom,?_,by rw[hcap];exact g3,hb',by rw[hcap];exact g5⟩) fun b' hb'=>.inl hb'⟩
   ·simp[Builtin.append_,Go.underlying,hT.und,h2,sizeOf,typeInfo,hi1,hi3,hlen,hfst,hroom,sl,zcJ,he]
   ·rw[List.length_append,g2,zdH];omega
  ·have holds:∀j u,cs[j]? = some u→w.cell? ((⟨b,0,none⟩:Addr).add j)=some u:=fun j u hj=>by
    rw[zcJ,zeC g4,Nat.zero_add,List.getElem?_append_left (List.getElem?_eq_some_iff.1 hj).1]
    exact hj
   have hfit:=growslice_fits (bytes:=nb) (Nat.lt_of_not_le hroom) hbound
   have hrun:=Lib.run_append_grow_string (P:=P) w T T2 ty E i z hT.und h2 hi1 hi2 ⟨b,0,none⟩ N c cs (by rw[hi3];exact g2) holds ⟨l.toArray⟩ (by rw[hsz];exact Nat.lt_of_not_le hroom) (by rw[hsz];omega) (by rw[hi4,hsz];exact hfit)
   rw[hsz]at hrun
   have hge:=grownCap_ge w (N+l.length) c E
   generalize hG:grownCap w (N+l.length) c E=G at hrun hge
   have hZl:=hzl (G-(N+l.length))
   generalize hZ:Builtin.zeroCells z.cells (G-(N+l.length))=Z at hrun hZl
   have hsc:Lib.strCells ⟨l.toArray⟩=u8s l:=by simp[Lib.strCells,u8s]
   rw[hsc]at hrun
   have hcells:cs.toArray++(u8s l).toArray++Z=(cs++u8s l++Z.toList).toArray:=by apply Array.ext';simp
   rw[hcells]at hrun
   refine⟨_,_,Z.toList,hrun,?_⟩
   refine H.upd hk (by simp) rfl rfl rfl (fun j hj _=>?_) (.inr ⟨w.heap.size,G,(0,0),rfl,hge,?_,?_,?_,.inl rfl⟩) fun b hb=>?_
   ·exact(Ext.trans (Ext.drew w) (Ext.alloc w.drew _)).block j hj
   ·rw[List.length_append,g2,zdH];omega
   ·simp only[List.length_append,hZl,g2,zdH];omega
   ·exact zaI w.drew _
   ·cases hb;exact .inr (Nat.le_refl _)
theorem HS.nilOwn(H:HS B S w L)(sz:Nat)(E:TypeId):HS B S w (.osl (.slice none 0 0) 0 sz [] [] E::L):=
 H.push (Ext.refl w) (.inl ⟨rfl,rfl,rfl,rfl⟩) fun b hb=>by cases hb
theorem toList_range_map'(zl:LV)(sz n:Nat)(hz:zl.length=sz)(hp:0<sz):((Array.range (n*sz)).map fun x=>(zl.toArray:Array Value)[x%sz]!).toList=(List.replicate n zl).flatten:=by
 subst hz
 apply List.ext_getElem?
 intro j
 have hfl:((List.replicate n zl).flatten).length=n*zl.length:=by simp
 by_cases hj:j<n*zl.length
 ·have h1:j%zl.length<zl.length:=Nat.mod_lt _ hp
  have h2:((List.replicate n zl).flatten)[j]? = zl[j%zl.length]?:=by
   clear h1 hfl
   induction n generalizing j with
   |zero=>omega
   |succ n ih=>
    rw[List.replicate_succ,List.flatten_cons]
    by_cases hj2:j<zl.length
    ·rw[List.getElem?_append_left hj2,Nat.mod_eq_of_lt hj2]
    ·rw[List.getElem?_append_right (by omega),ih (j-zl.length) (by rw[Nat.add_mul]at hj;omega),←Nat.mod_eq_sub_mod (by omega)]
  rw[h2]
  simp[hj,h1]
 ·rw[List.getElem?_eq_none (by simp;omega),List.getElem?_eq_none (by simpa using hj)]
theorem fillL_slice'{ps:List (Nat×Value)}{cs l:LV}(h:zvL ((List.range' 0 N).map fun i=>(i*sz,sz)) cs ps=some l):Instr.fill (fun i=>some (i*sz,sz)) cs.toArray ps=some l.toArray:=
 ygN (fun i=>by simpa using ycO sz N 0 i) ps cs l h
theorem ycP{ps:List (Nat×Operand)}{vals:List (Nat×Value)}{l:LV}(hT:TSn P T E z zl nb sz)(hp:zsH e ps=vals)
  (hl:zvL ((List.range' 0 N).map fun i=>(i*sz,sz)) (List.replicate N zl).flatten vals=some l) (hN:Nat.ble (N*sz) 16777216=true):
  (execOp e ⟨dst,.buildSlice T N ps.toArray,ty,pos,aft,g⟩).run P w = .ok (.value (sl w.heap.size 0 N N)) (w.alloc (.cells l.toArray E)):=by
 obtain⟨i,hi1,hi2,hi3,hi4⟩:=hT.info
 have hpos:=hT.pos
 have e1:(ps.toArray.map fun(i,x)=>(i,e x))=vals.toArray:=by
  rw[←hp,←ykR];simp
 have hf:=fillL_slice' hl
 have hN':¬16777216<N*sz:=by have:=Nat.le_of_ble_eq_true hN;omega
 simp only[execOp,Sem.run_bind]
 rw[e1]
 by_cases h0:N=0
 ·subst h0
  simp only[List.replicate,List.flatten_nil]at hf
  have hr':(Array.map (fun _=>(default:Value)) (Array.range 0)) = #[]:=by simp
  simp[Instr.buildSlice,Go.underlying,hT.und,sizeOf,typeInfo,hi1,hi3,newRow,sl]
  rw[hr',hf]
  simp
 ·have hr:=toList_range_map' zl sz N hT.len hpos
  have hr':((Array.range (N*sz)).map fun x=>(zl.toArray:Array Value)[x%sz]!)=((List.replicate N zl).flatten).toArray:=by rw[←hr]
  have hne:¬N*sz=0:=by
   intro h;rcases Nat.mul_eq_zero.1 h with h|h<;>omega
  simp at hr'
  have hz2:zl.length=sz:=hT.len
  simp only[Instr.buildSlice,Go.underlying,hT.und,sizeOf,typeInfo,hi1,hi3,Sem.run_bind,run_program,Result.andThen_ok,Sem.run_pure,if_neg hN',if_neg hne,zeroValue,hi2,hT.cells]
  simp[hz2,hr',newRow,sl]
  rw[hf]
  simp
theorem zlW{ps:List (Nat×Operand)}{vals:List (Nat×Value)}{l:LV}(hT:TSn P T E z zl nb sz)(H:HS B S w L)(hp:zsH e ps=vals)
  (hl:zvL ((List.range' 0 N).map fun i=>(i*sz,sz)) (List.replicate N zl).flatten vals=some l) (hN:Nat.ble (N*sz) 16777216=true) (hlen:l.length=N*sz):
  ∃w' v,(execOp e ⟨dst,.buildSlice T N ps.toArray,ty,pos,aft,g⟩).run P w = .ok (.value v) w'∧HS B S w' (.osl v N sz l [] E::L):=by
 have hrun:=ycP (P:=P) (w:=w) (dst:=dst) (ty:=ty) (pos:=pos) (aft:=aft) (g:=g) hT hp hl hN
 refine⟨_,_,hrun,H.push (Ext.alloc w _) (.inr ⟨w.heap.size,N,(0,0),rfl,Nat.le_refl _,hlen,by rw[List.append_nil];exact Nat.le_of_eq hlen.symm,by rw[List.append_nil];exact zaI w _,.inl rfl⟩) fun b hb=>by cases hb;exact Nat.le_refl _⟩
theorem zfS{α:Type}[Rp α]{xs:List α}{ps:List (Nat×Operand)}{vals:List (Nat×Value)}{l:LV}(g0:RL S l xs)(hT:TSn P T E z zl nb sz)(H:HS B S w L)(hp:zsH e ps=vals)
  (hl:zvL ((List.range' 0 N).map fun i=>(i*sz,sz)) (List.replicate N zl).flatten vals=some l) (hN:Nat.ble (N*sz) 16777216=true) (hs:Rp.sz α=sz:=by rfl) (hx:xs.length=N:=by rfl):
  ∃w' v,(execOp e ⟨dst,.buildSlice T N ps.toArray,ty,pos,aft,g⟩).run P w = .ok (.value v) w'∧∃cs,HS B S w' (.osl v N sz cs [] E::L)∧RL S cs xs:=by
 obtain⟨w',v,h1,h2⟩:=zlW (dst:=dst) (ty:=ty) (pos:=pos) (aft:=aft) (g:=g) hT H hp hl hN (by rw[g0.len,hs,hx])
 exact⟨w',v,h1,l,h2,g0⟩
theorem a_make{a b:Int}{k1 k2:IntKind}{N C:Nat}(hT:TSn P T E z zl nb sz)(H:HS B S w L)(hx:e x = .int k1 a)(hy:e y = .int k2 b)(ha:a=(N:Int))(hb:b=(C:Int))(hNC:N≤C)(hC:C≤68719476736):
  ∃w' v,(execOp e ⟨dst,.makeSlice T x y,ty,pos,aft,g⟩).run P w = .ok (.value v) w'∧HS B S w' (.osl v N sz (List.replicate N zl).flatten (List.replicate (C-N) zl).flatten E::L):=by
 obtain⟨i,hi1,hi2,hi3,hi4⟩:=hT.info
 have hsmall:=hT.small
 subst ha;subst hb
 have hbb:(i.bytes:Int)*(C:Int)≤281474976710656:=by
  rw[hi4,←Int.natCast_mul]
  have:nb*C≤2048*68719476736:=Nat.mul_le_mul hsmall hC
  omega
 have hr:=run_make (P:=P) w T E i z hT.und hi1 hi2 k1 k2 N C (by omega) (by omega) hbb (by omega)
 have hc:madeCells z.cells (((C:Int).toNat)*i.size)=((List.replicate N zl).flatten++(List.replicate (C-N) zl).flatten).toArray:=by
  rw[hi3,Int.toNat_natCast,hT.cells]
  unfold madeCells
  have h1:=toList_range_map' zl sz C hT.len hT.pos
  have h2:(zl.toArray).size=sz:=by simpa using hT.len
  rw[h2]
  apply Array.ext'
  rw[h1,List.toList_toArray,←List.flatten_append,List.replicate_append_replicate]
  congr 2;omega
 rw[hc,Int.toNat_natCast,Int.toNat_natCast]at hr
 refine⟨_,_,by simp only[execOp,hx,hy,Sem.run_bind,hr,Result.andThen_ok,Sem.run_pure],H.push (Ext.alloc w _) (.inr ⟨w.heap.size,C,(0,0),rfl,hNC,?_,?_,zaI w _,.inl rfl⟩) fun b hb=>by cases hb;exact Nat.le_refl _⟩
 ·rw[List.length_flatten];simp[hT.len]
 ·refine Nat.le_of_eq (Eq.symm ?_);simp[hT.len];rw[←Nat.add_mul];congr 1;omega
section
variable {α:Type}[Rp α]
theorem HS.fixX{xs:List α}(H:HS B S w L){k:Nat}(hk:lkR L k=some (.osl v xs.length sz cs rs T))(hr:RL S cs xs)(hs:Rp.sz α=sz:=by rfl):
  ∃S',Mem.le S S'∧RdS S' v xs∧HS B S' w (rmR L k):=by
 obtain⟨S',hle,h1,H'⟩:=H.fixS hk
 subst hs
 exact⟨S',hle,⟨cs,h1,hr.mono hle⟩,H'⟩
theorem zgF{k:Nat}{xs ys r:List α}{ds:LV}(hT:TSn P T E z zl nb sz)(_hs:Rp.sz α=sz)(H:HS B S w L)(hx:e x=v)(hk:lkR L k=some (.osl v xs.length sz cs rs E))(h0:RL S cs xs)(hy:e y=v2)(hw:SlW w v2 ys.length sz ds)(h2:RL S ds ys)(ha:app xs ys=some r):
  ∃w' v',(execOp e ⟨dst,.call ⟨.builtin .append,#[x,y],#[T,T]⟩,ty,pos,aft,g⟩).run P w = .ok (.value v') w'∧∃cs' rs',HS B S w' (stR L k (.osl v' r.length sz cs' rs' E))∧RL S cs' r:=by
 obtain⟨hb,hr⟩:=zcW ha
 obtain⟨w',v',rs',hrun,H'⟩:=ypX (dst:=dst) (ty:=ty) (pos:=pos) (aft:=aft) (g:=g) hT H hx hk hy hw h2.one hb
 subst hr
 rw[←List.length_append]at H'
 exact⟨w',v',hrun,_,rs',H',h0.append h2⟩
theorem zlU{α:Type}[Rp α]{i:Int}{k b M c0:Nat}{xs r:List α}{u:α}{l:LV}{T':TypeId}(ts:TSz P T sz)(hs:Rp.sz α=sz)(H:HS B S w L)(hk:lkR L k=some (.osl (sl b 0 M c0) xs.length sz cs rs T'))(h0:RL S cs xs)(hp:e x = .pointer (some ⟨b,0+i.toNat*sz,none⟩))(hy:e y=v)(hv:zpZ v l)(hu:Rp.rep S l u)(hi:setL xs i u=some r):
  ∃w',(execOp e ⟨none,.store T x y,ty,pos,aft,g⟩).run P w = .ok .skip w'∧∃cs',HS B S w' (stR L k (.osl (sl b 0 M c0) r.length sz cs' rs T'))∧RL S cs' r:=by
 obtain⟨_,h1,h2⟩:=zoN hi
 obtain⟨w',hrun,H'⟩:=yzB (g:=g) (ty:=ty) (pos:=pos) (aft:=aft) ts H hk hp h1 hy hv (by rw[Rp.len hu,hs]) (Rp.one hu)
 have hl:r.length=xs.length:=by rw[←h2,List.length_set]
 rw[←hl]at H'
 exact⟨w',hrun,_,H',yvP h0 hu hi hs⟩
theorem ysI{T2:TypeId}{k:Nat}{xs r l:Bs}(hT:TSn P T E z zl nb 1)(h2:P.underlying T2=some .string)(H:HS B S w L)(hx:e x=v)(hk:lkR L k=some (.osl v xs.length 1 cs rs E))(h0:RL S cs xs)(hy:e y=str l)(ha:app xs l=some r):
  ∃w' v',(execOp e ⟨dst,.call ⟨.builtin .append,#[x,y],#[T,T2]⟩,ty,pos,aft,g⟩).run P w = .ok (.value v') w'∧∃cs' rs',HS B S w' (stR L k (.osl v' r.length 1 cs' rs' E))∧RL S cs' r:=by
 obtain⟨hb,hr⟩:=zcW ha
 obtain⟨w',v',rs',hrun,H'⟩:=zrW (ty:=ty) hT h2 H hk hb
 subst hr
 rw[←List.length_append]at H'
 exact⟨w',v',by simp[execOp,resolve,invoke,builtin,hx,hy,hrun],_,rs',H',h0.append (RL.of_u8s l)⟩
theorem yhM{a b:Int}{k1 k2:IntKind}{zx:α}{r:List α}(hT:TSn P T E z zl nb sz)(_hs:Rp.sz α=sz)(H:HS B S w L)(hx:e x = .int k1 a)(hy:e y = .int k2 b)(hz:Rp.rep S zl zx)(hm:mkL a zx=some r)(hab:a≤b)(hb:b≤(LIM:Int)):
  ∃w' v,(execOp e ⟨dst,.makeSlice T x y,ty,pos,aft,g⟩).run P w = .ok (.value v) w'∧∃cs rs,HS B S w' (.osl v r.length sz cs rs E::L)∧RL S cs r:=by
 obtain⟨h1,h2,h3⟩:=yaB hm
 have hb':b≤68719476736:=hb
 obtain⟨w',v,hrun,H'⟩:=a_make (dst:=dst) (ty:=ty) (pos:=pos) (aft:=aft) (g:=g) (N:=a.toNat) (C:=b.toNat) hT H hx hy (by omega) (by omega) (by omega) (by omega)
 have hl:r.length=a.toNat:=by rw[←h3];simp
 rw[←hl]at H'
 refine⟨w',v,hrun,_,_,H',?_⟩
 rw[hl,←h3];exact RL.replicate hz _
end
theorem zaQ{a b:Bool}(h:(a&&b)=true):a=true:=by rw[Bool.and_eq_true]at h;exact h.1
theorem zbC{a b:Bool}(h:(a&&b)=true):b=true:=by rw[Bool.and_eq_true]at h;exact h.2
end
end
section
abbrev itT(l:Bs)(p:Nat):Obj:=.stringIter ⟨l.toArray⟩ p
def dec(l:Bs)(p:Nat):Nat×Nat:=Utf8.decode ⟨l.toArray⟩ p
def nxR(l:Bs)(p:Nat):Int:=((dec l p).1:Int)
def nxP(l:Bs)(p:Nat):Nat:=bif decide (p<l.length)then p+(dec l p).2 else p
def nxV(l:Bs)(p:Nat):Value:=bif decide (p<l.length)then .tuple #[.bool true,.int .i64 (p:Int),.int .i32 (nxR l p)]else .tuple #[.bool false]
section
variable {P:Program}{ops:Array Oper}{Q:Exit→Act→World→Prop}{rest:List Oper}{n:Nat}{m:FM}{w:World}{B:Bas}{S:Mem}{L:List Res}
variable {d:Nat}{op:Op}{ty:TypeId}{pos:String}{aft:Array Edge}{c v:Value}{x y:Operand}{T T':TypeId}{e:Operand→Value}{dst:Option Tmp}{g:Option (Nat×Bool)}
theorem p_ofc{φ:World→Prop}(h:∃w',(execOp (evO n m) ⟨some d,op,ty,pos,aft,none⟩).run P w = .ok (.value c) w'∧φ w')(hr:∀w',φ w'→wpList P ops Q rest (fr n ((d,c)::m)) w'):
  wpList P ops Q (⟨some d,op,ty,pos,aft,none⟩::rest) (fr n m) w:=by
 obtain⟨w',h1,h2⟩:=h
 exact yxO h1 (hr w' h2)
theorem yjX{s:ByteArray}{p b:Nat}(h:w.heap[b]? = some (.stringIter s p)):(getObj b).run P w = .ok (.stringIter s p) w:=by
 simp[getObj,Sem.run,h]
theorem ywM{s:ByteArray}{p b:Nat}{o:Obj}(h:w.heap[b]? = some (.stringIter s p)):(setObj b o).run P w = .ok () { w with heap:=w.heap.setIfInBounds b o }:=by
 simp[setObj,Sem.run,h]
theorem yzI{l:Bs}(H:HS B S w L)(hu:P.underlying T=some .string)(hx:e x=str l):
  ∃w' b,(execOp e ⟨dst,.range T x,ty,pos,aft,g⟩).run P w = .ok (.value (.pointer (some ⟨b,0,none⟩))) w'∧HS B S w' (.obj b (itT l 0)::L):=by
 refine⟨w.alloc (itT l 0),w.heap.size,?_,H.push (Ext.alloc w _) (zaI w _) fun b hb=>by cases hb;exact Nat.le_refl _⟩
 simp[execOp,Instr.range,Go.underlying,hu,hx,str,itT]
theorem a_nextT{l:Bs}{p k b:Nat}(H:HS B S w L)(hx:e x = .pointer (some ⟨b,0,none⟩))(hk:lkR L k=some (.obj b (itT l p))):
  ∃w',(execOp e ⟨dst,.next x true,ty,pos,aft,g⟩).run P w = .ok (.value (nxV l p)) w'∧HS B S w' (stR L k (.obj b (itT l (nxP l p)))):=by
 have hb:w.heap[b]? = some (itT l p):=H.own k _ hk
 have hsz:(⟨l.toArray⟩:ByteArray).size=l.length:=ziG l
 by_cases hp:p<l.length
 ·have hblt:=lt_of_heap hb
  refine⟨{ w with heap:=w.heap.setIfInBounds b (itT l (nxP l p)) },?_,H.upd hk (by simp) rfl rfl rfl (fun i _ hne=>?_) ?_ fun b' hb'=>.inl hb'⟩
  ·simp[execOp,Instr.next,hx,yjX hb,hsz,hp,nxV,nxP,nxR,dec,ywM hb,goInt]
  ·have hib:i≠b:=fun e=>hne (by rw[e];rfl)
   show(w.heap.setIfInBounds b _)[i]? = _
   rw[Array.getElem?_setIfInBounds_ne (Ne.symm hib)]
  ·show(w.heap.setIfInBounds b _)[b]? = _
   simp[hblt]
 ·refine⟨w,?_,?_⟩
  ·simp[execOp,Instr.next,hx,yjX hb,hsz,hp,nxV]
  ·have e1:nxP l p=p:=by simp[nxP,hp]
   rw[e1]
   have e2:stR L k (.obj b (itT l p))=L:=by
    clear H
    induction L generalizing k with
    |nil=>rfl
    |cons r L ih=>
     cases k with
     |zero=>simp only[lkR,Option.some.injEq]at hk;rw[hk];rfl
     |succ k=>simp only[lkR]at hk;simp only[stR];rw[ih hk]
   rw[e2];exact H
theorem zkI{a:Addr}(hx:e x = .pointer (some a)):(execOp e ⟨dst,.nilCheck x,ty,pos,aft,g⟩).run P w = .ok (.value (.pointer (some a))) w:=by
 simp[execOp,hx]
def zoL(w:World):Mem:=fun b=>w.heap[b]?
theorem yeY(w:World):Sub (zoL w) w:=fun _ _ h=>h
theorem RdS.ofOwn{α:Type}[Rp α]{xs:List α}{k sz:Nat}{cs rs:LV}(H:HS B S w L)(hk:lkR L k=some (.osl v xs.length sz cs rs T))(hr:RL S cs xs)(hs:Rp.sz α=sz:=by rfl):RdS (zoL w) v xs:=by
 subst hs
 exact⟨cs,H.slW hk,hr.mono H.sub⟩
theorem ygC:args? n m []=[]:=rfl
theorem zqN{l:List Operand}{vs:LV}(h:evO n m x=v)(t:args? n m l=vs):args? n m (x::l)=v::vs:=by rw[←h,←t];rfl
theorem HS.ownOne{k N sz:Nat}{cs rs:LV}(H:HS B S w L)(hk:lkR L k=some (.osl v N sz cs rs T)):v.oneCell'=true:=by
 rcases H.own k _ hk with⟨h,_⟩|⟨b,c,fz,h,_⟩<;>rw[h]<;>rfl
def BA(b:Nat)(a:Value):Prop:=a = .pointer none∨a = .pointer (some ⟨b,0,none⟩)
def yyK:LV:=(List.range 20).map fun i=>Value.int .u64 ((10^i:Nat):Int)
def TB(S:Mem):Prop:=∃t fz,S 1=some (.cells yyK.toArray t fz)
theorem TB.mono{S T:Mem}(h:TB S)(hl:Mem.le S T):TB T:=by
 first
 |exact trivial
 |(obtain⟨t,fz,h⟩:=h;exact⟨t,fz,hl _ _ h⟩)
structure GV (S:Mem):Prop where
 mx:∃ds T fz m,S 0=some (.cells ds T fz)∧ds[0]? = some (.int .i64 m)
 tb:TB S
theorem GV.mono{S T:Mem}(h:GV S)(hl:Mem.le S T):GV T:=by
 obtain⟨⟨ds,E,fz,m,h1,h2⟩,h3⟩:=h
 exact⟨⟨ds,E,fz,m,hl _ _ h1,h2⟩,h3.mono hl⟩
theorem GV.cell(h:GV S)(hS:Sub S w):∃m,w.cell? ⟨0,0,none⟩=some (.int .i64 m):=by
 obtain⟨⟨ds,E,fz,m,h1,h2⟩,_⟩:=h
 exact⟨m,by simp[World.cell?,hS _ _ h1,h2]⟩
end
end
section
theorem i32_rem(a:UInt32)(b:Int)(h:0≤b):Int.tmod (a.toNat:Int) b=((i32 (Int.tmod (a.toNat:Int) b)).toNat:Int):=by
 have h1:=a.toNat_lt
 have h2:0≤Int.tmod (a.toNat:Int) b:=Int.tmod_nonneg _ (by omega)
 have h3:Int.tmod (a.toNat:Int) b≤(a.toNat:Int):=by
  obtain⟨n,rfl⟩:=Int.eq_ofNat_of_zero_le h
  rw[←Int.ofNat_tmod];have:=Nat.mod_le a.toNat n;omega
 rw[yyE h2 (by omega)]
theorem yuK(a:UInt64)(b:Int)(h:0≤b):Int.tmod (a.toNat:Int) b=((i64 (Int.tmod (a.toNat:Int) b)).toNat:Int):=by
 have h1:=a.toNat_lt
 have h2:0≤Int.tmod (a.toNat:Int) b:=Int.tmod_nonneg _ (by omega)
 have h3:Int.tmod (a.toNat:Int) b≤(a.toNat:Int):=by
  obtain⟨n,rfl⟩:=Int.eq_ofNat_of_zero_le h
  rw[←Int.ofNat_tmod];have:=Nat.mod_le a.toNat n;omega
 rw[ypD h2 (by omega)]
section
variable {P:Program}{w:World}{B:Bas}{S:Mem}{L:List Res}{T T':TypeId}{e:Operand→Value}{x y:Operand}{v:Value}{dst:Option Tmp}{pos:String}{aft:Array Edge}{ty:TypeId}{g:Option (Nat×Bool)}
theorem ymT{α:Type}{i:Int}{l:List α}{u:α}{cf:α→Value}{o b k:Nat}{cs:LV}(tg:TOne P T)(H:HS B S w L)(hp:e x = .pointer (some ⟨b,o+i.toNat*1,none⟩))(hk:lkR L k=some (.blk b cs T'))(hi:idx l i=some u)(hc:piece cs o l.length=l.map cf):
  (execOp e ⟨dst,.load T x,ty,pos,aft,g⟩).run P w = .ok (.value (cf u)) w:=by
 obtain⟨_,h2⟩:=zaB hi
 have hlt:=(List.getElem?_eq_some_iff.1 h2).1
 refine zfF (k:=k) (cs:=cs) (o:=o+i.toNat*1) tg H hp hk ?_
 have h3:=zlL cs o l.length i.toNat 1 (by omega)
 rw[Nat.mul_one,←h3,hc,zaK,←List.map_drop,List.drop_eq_getElem_cons hlt]
 have h4:l[i.toNat]=u:=by rw[List.getElem?_eq_getElem hlt]at h2;exact osi h2
 simp[h4]
theorem lay_tab{α:Type}{i:Int}{l r:List α}{u:α}(z:α){cf:α→Value}{o n:Nat}{cs:LV}(hs:setL l i u=some r)(hn:l.length=n)(hc:piece cs o l.length=l.map cf)(hl:o+l.length≤cs.length):
  lay cs (o+i.toNat) [cf u]=cs.take o++(((List.range n).map fun j=>cf (r.getD j z))++cs.drop (o+n)):=by
 obtain⟨h1,h2,h3⟩:=zoN hs
 have hlt:i.toNat<l.length:=by omega
 subst hn
 apply List.ext_getElem?
 intro j
 rw[zdN]
 have hp:∀q,q<l.length→cs[o+q]? = (l.map cf)[q]?:=fun q hq=>by
  rw[←hc,zaK,List.getElem?_take,if_pos hq,List.getElem?_drop]
 by_cases ha:j<o
 ·rw[if_neg (by simp;omega),List.getElem?_append_left (by rw[List.length_take];omega),List.getElem?_take,if_pos ha]
 ·rw[List.getElem?_append_right (by rw[List.length_take];omega),List.length_take,Nat.min_eq_left (by omega)]
  by_cases hb:j-o<l.length
  ·rw[List.getElem?_append_left (by simpa using hb)]
   simp only[List.getElem?_map,List.getElem?_range hb,Option.map_some]
   rw[←h3]
   by_cases hj:j=o+i.toNat
   ·subst hj
    rw[if_pos (by simp;omega)]
    simp[List.getD_eq_getElem?_getD,hlt]
   ·rw[if_neg (by simp;omega)]
    have:=hp (j-o) hb
    rw[show o+(j-o)=j by omega]at this
    rw[this,List.getElem?_map,List.getD_eq_getElem?_getD,List.getElem?_set_ne (by omega),List.getElem?_eq_getElem hb]
    rfl
  ·rw[if_neg (by simp;omega),List.getElem?_append_right (by simpa using hb),List.length_map,List.length_range,List.getElem?_drop]
   congr 1;omega
theorem yzD{α:Type}{i:Int}{l r:List α}{u:α}(z:α){cf:α→Value}{o n b k:Nat}{cs:LV}(ts:TSz P T 1)(H:HS B S w L)(hp:e x = .pointer (some ⟨b,o+i.toNat*1,none⟩))(hk:lkR L k=some (.blk b cs T'))(hy:e y=cf u)(h1:(cf u).oneCell'=true)
  (hs:setL l i u=some r) (hn:l.length=n) (hc:piece cs o l.length=l.map cf) (hl:o+l.length≤cs.length):
  ∃w',(execOp e ⟨none,.store T x y,ty,pos,aft,g⟩).run P w = .ok .skip w'∧HS B S w' (stR L k (.blk b (cs.take o++(((List.range n).map fun j=>cf (r.getD j z))++cs.drop (o+n))) T')):=by
 obtain⟨h2,h3,_⟩:=zoN hs
 have:=zlQ (k:=k) (v:=cf u) (l:=[cf u]) (ty:=ty) (pos:=pos) (aft:=aft) (g:=g) ts H hp hk hy (cells_one h1) rfl (by simpa using h1) (by simp;omega)
 rw[Nat.mul_one,lay_tab z hs hn hc hl]at this
 exact this
theorem yuW{n:Nat}{m:FM}{t k b o sz:Nat}{cs l:LV}(tg:TAgg P T sz)(H:HS B S w L)(hp:evO n m (.tmp t) = .pointer (some ⟨b,o,none⟩))(hk:lkR L k=some (.blk b cs T'))(hl:piece cs o sz=l)
  (hsz:Nat.ble (o+sz) cs.length=true):yiC P n m w (.cell t T) (.agg l.toArray):=by
 have hrun:=ztS (P:=P) (w:=w) tg (H.own k _ hk) hl (Nat.le_of_ble_eq_true hsz)
 unfold yiC resS
 simp only[ymQ,hp]
 simpa[Instr.loadAt,Instr.sureAddr,asAddr]using hrun
end
end
section
def EqR(P:Program)(n:Nat)(T:TypeId)(x y:Value)(t:Bool):Prop:=∀d w,(Op.equalIn (d+n) T x y).run P w = .ok t w
variable {P:Program}{n m:Nat}{T E:TypeId}{x y:Value}{t u:Bool}
theorem EqR.up(h:EqR P n T x y t)(k:Nat):EqR P (k+n) T x y t:=fun d w=>by have:=h (d+k) w;rwa[Nat.add_assoc]at this
theorem EqR.le(h:EqR P n T x y t)(k:Nat)(hk:n≤k):EqR P k T x y t:=by have:=h.up (k-n);rwa[Nat.sub_add_cancel hk]at this
theorem eqI{k:IntKind}{a b:Int}(hu:P.underlying T=some (.int k))(h:(a==b)=t):EqR P 1 T (.int k a) (.int k b) t:=fun d w=>by
 rw[←h];simp[Op.equalIn,Go.underlying,hu]
theorem eqB{a b:Bool}(hu:P.underlying T=some .bool):EqR P 1 T (.bool a) (.bool b) (a==b):=fun d w=>by simp[Op.equalIn,Go.underlying,hu]
theorem eqS{a b:Bs}(hu:P.underlying T=some .string):EqR P 1 T (str a) (str b) (a==b):=fun d w=>by
 have hb:((⟨a.toArray⟩:ByteArray)==⟨b.toArray⟩)=(a==b):=by
  show(a.toArray==b.toArray)=_
  simp
 simp[Op.equalIn,Go.underlying,hu,str,hb]
inductive EqL (P:Program) (n:Nat) (xs ys:Array Value):List (TypeId×Nat)→Bool→Prop
 |nil:EqL P n xs ys [] true
 |cons {T o fs a b t u}:(∀w,(part T xs o).run P w = .ok a w)→(∀w,(part T ys o).run P w = .ok b w)→EqR P n T a b t→EqL P n xs ys fs u→EqL P n xs ys ((T,o)::fs) (t&&u)
theorem EqL.last{xs ys:Array Value}{T:TypeId}{o:Nat}{a b:Value}(h1:∀w,(part T xs o).run P w = .ok a w)(h2:∀w,(part T ys o).run P w = .ok b w)(h:EqR P n T a b t):EqL P n xs ys [(T,o)] t:=by
 have:=EqL.cons h1 h2 h EqL.nil
 rwa[Bool.and_true]at this
theorem partA{l l':LV}{o sz:Nat}(tg:TAgg P T sz)(h:piece l o sz=l')(w:World):(part T l.toArray o).run P w = .ok (.agg l'.toArray) w:=by
 subst h
 simp[part,tg.1,tg.2,zaK]
theorem ycZ{l:LV}{v:Value}{o:Nat}(tg:TOne P T)(h:l[o]? = some v)(w:World):(part T l.toArray o).run P w = .ok v w:=by
 simp[part,tg.1,h]
theorem eqFields {xs ys : Array Value} (d : Nat) : ∀ {fs : List Field} {t : Bool}, (∀ f ∈ fs, f.name ≠ "_") → EqL P n xs ys (fs.map fun f => (f.type, f.offset)) t → ∀ w : World,
  (do
   for f in fs do
    if f.name ≠ "_" then
     if !(←Op.equalIn (d+n) f.type (←part f.type xs f.offset) (←part f.type ys f.offset))then return false
   pure true:Sem Bool).run P w = .ok t w
 |[],t,_,h,w=>by cases h;simp
 |f::fs,t,hn,h,w=>by
  have h0 : f.name ≠ "_" := hn f (by simp)
  cases h with
  |cons h1 h2 h3 h4=>
   have ih:=eqFields d (fun g hg=>hn g (by simp[hg])) h4 w
   rename_i a b t u
   cases t<;>simp_all [h3 d]
theorem EqR.str {xs ys : LV} {fs : Array Field} (hu : P.underlying T = some (.struct fs)) (hst : P.stoodInHeld T = false) (hn : fs.toList.all (fun f => f.name != "_") = true)
  {l:List (TypeId×Nat)} (hf:fs.toList.map (fun f=>(f.type,f.offset))=l) (h:EqL P n xs.toArray ys.toArray l t):EqR P (n+1) T (.agg xs.toArray) (.agg ys.toArray) t:=fun d w=>by
 subst hf
 have:=eqFields d (fun f hf=>by have:=List.all_eq_true.1 hn f hf;simpa using this) h w
 rw[←Nat.add_assoc]
 unfold Op.equalIn
 simp only[Sem.run_bind,Go.underlying,run_program,Result.andThen_ok,hu,hst,Sem.run_pure,Bool.false_eq_true,if_false]
 simpa using this
theorem ysZ{xs ys:Array Value}{sz:Nat}(d:Nat):∀{k i:Nat} {t:Bool},EqL P n xs ys ((List.range' i k).map fun j=>(E,j*sz)) t→∀w:World,
  (do
   for i in List.range' i k do
    if !(←Op.equalIn (d+n) E (←part E xs (i*sz)) (←part E ys (i*sz)))then return false
   pure true:Sem Bool).run P w = .ok t w
 |0,i,t,h,w=>by cases h;simp
 |k+1,i,t,h,w=>by
  rw[List.range'_succ,List.map_cons]at h
  cases h with
  |cons h1 h2 h3 h4=>
   have ih:=ysZ d h4 w
   rename_i a b t u
   rw[List.range'_succ]
   cases t<;>simp_all [h3 d]
theorem EqR.arr{xs ys:LV}{k sz:Nat}(hu:P.underlying T=some (.array k E))(hs:∀w,(sizeOf E).run P w = .ok sz w)
  {l:List (TypeId×Nat)} (hf:(List.range' 0 k).map (fun j=>(E,j*sz))=l) (h:EqL P n xs.toArray ys.toArray l t):EqR P (n+1) T (.agg xs.toArray) (.agg ys.toArray) t:=fun d w=>by
 subst hf
 have:=ysZ d h w
 rw[←Nat.add_assoc]
 unfold Op.equalIn
 simp only[Sem.run_bind,Go.underlying,run_program,Result.andThen_ok,hu,hs,Sem.run_pure]
 simpa[Std.Legacy.Range.forIn_eq_forIn_range',Std.Legacy.Range.size]using this
section
variable {w:World}{e:Operand→Value}{a b:Operand}{T' ty:TypeId}{pos:String}{aft:Array Edge}{dst:Option Tmp}{g:Option (Nat×Bool)}
theorem r_eqR{xs ys:Array Value}(hg:P.eqGuardType P.depth T=false)(hk:n≤10000)(h:EqR P n T (.agg xs) (.agg ys) t)(h1:e a = .agg xs)(h2:e b = .agg ys):(execOp e ⟨dst,.binOp .eql T a b T',ty,pos,aft,g⟩).run P w = .ok (.value (.bool t)) w:=by
 have key:(Op.equal T (.agg xs) (.agg ys)).run P w = .ok t w:=(h.le 10000 hk) 0 w
 simp only[execOp,h1,h2,eqGuard,binOp,Sem.run_bind]
 simp[hg,key]
theorem r_neR{xs ys:Array Value}(hg:P.eqGuardType P.depth T=false)(hk:n≤10000)(h:EqR P n T (.agg xs) (.agg ys) t)(h1:e a = .agg xs)(h2:e b = .agg ys):(execOp e ⟨dst,.binOp .neq T a b T',ty,pos,aft,g⟩).run P w = .ok (.value (.bool (!t))) w:=by
 have key:(Op.equal T (.agg xs) (.agg ys)).run P w = .ok t w:=(h.le 10000 hk) 0 w
 simp only[execOp,h1,h2,eqGuard,binOp,Sem.run_bind]
 simp[hg,key]
end
section
variable {ops:Array Oper}{k d i:Nat}{m:FM}{nh:Nat}{Φ:zgC}{W:World}{vs:Nat→Gv}{Fin:Act→Prop}{rest:List Oper}{ty:TypeId}{pos:String}{aft:Array Edge}{S:Mem}
end
end
section
variable {P:Program}{w:World}{T T':TypeId}{e:Operand→Value}{x y:Operand}{dst:Option Tmp}{pos:String}{aft:Array Edge}{ty:TypeId}{g:Option (Nat×Bool)}{a b:Int}{k:IntKind}
theorem zdS(hx:e x = .int .i64 a)(hy:e y = .int .i64 b):(execOp e ⟨dst,.binOp .add T x y T',ty,pos,aft,g⟩).run P w = .ok (.value (.int .i64 (w64 (a+b)))) w:=ziZ hx hy rfl
theorem zoW(hx:e x = .int .i64 a)(hy:e y = .int .i64 b):(execOp e ⟨dst,.binOp .sub T x y T',ty,pos,aft,g⟩).run P w = .ok (.value (.int .i64 (w64 (a-b)))) w:=r_sub hx hy rfl
theorem yeA(hx:e x = .int .i64 a)(hy:e y = .int .i64 b):(execOp e ⟨dst,.binOp .mul T x y T',ty,pos,aft,g⟩).run P w = .ok (.value (.int .i64 (w64 (a*b)))) w:=ydJ hx hy rfl
theorem zfP(hx:e x = .int k a)(hy:e y = .int k b):(execOp e ⟨dst,.binOp .lss T x y T',ty,pos,aft,g⟩).run P w = .ok (.value (.bool (decide (a<b)))) w:=r_lss hx hy rfl
theorem yaE(hx:e x = .int k a)(hy:e y = .int k b):(execOp e ⟨dst,.binOp .gtr T x y T',ty,pos,aft,g⟩).run P w = .ok (.value (.bool (decide (b<a)))) w:=r_gtr hx hy rfl
theorem yvH(hx:e x = .int k a)(hy:e y = .int k b):(execOp e ⟨dst,.binOp .geq T x y T',ty,pos,aft,g⟩).run P w = .ok (.value (.bool (decide (b≤a)))) w:=r_geq hx hy rfl
theorem ykM(hx:e x = .int k a)(hy:e y = .int k b):(execOp e ⟨dst,.binOp .eql T x y T',ty,pos,aft,g⟩).run P w = .ok (.value (.bool ((a==b)))) w:=r_eql hx hy rfl
theorem yoG(hx:e x = .int k a)(hy:e y = .int k b):(execOp e ⟨dst,.binOp .neq T x y T',ty,pos,aft,g⟩).run P w = .ok (.value (.bool ((a != b)))) w:=r_neq hx hy rfl
end
structure Vec (α:Type) (n:Nat) where
 l:List α
 h:l.length=n
section
variable {α:Type}{n:Nat}
theorem Vec.eq{x y:Vec α n}(h:x.l=y.l):x=y:=by cases x;cases y;simp at h;subst h;rfl
def vcl(cf:α→Value)(x:Vec α n):LV:=x.l.map cf
theorem zxK(cf:α→Value)(x:Vec α n):(vcl cf x).length=n:=by simp[vcl,x.h]
def vrep(n:Nat)(z:α):Vec α n:=⟨List.replicate n z,by simp⟩
def setV(x:Vec α n)(i:Int)(u:α):Option (Vec α n):=bif decide (0≤i)&&decide (i<(n:Int))then some ⟨x.l.set i.toNat u,by simp[x.h]⟩else none
theorem yvM{x r:Vec α n}{i:Int}{u:α}(h:setV x i u=some r):i=(i.toNat:Int)∧i.toNat<n∧r.l=x.l.set i.toNat u:=by
 unfold setV at h
 cases hc:decide (0≤i)&&decide (i<(n:Int)) with
 |false=>rw[hc]at h;cases h
 |true=>
  rw[hc]at h
  obtain rfl:=osi h
  simp only[Bool.and_eq_true,decide_eq_true_eq]at hc
  exact⟨by omega,by omega,rfl⟩
theorem zsS{x:Vec α n}{i:Int}{u:α}(h:idx x.l i=some u):i.toNat<n:=by have:=zbB h;rwa[x.h]at this
theorem ykT(cf:α→Value)(x:Vec α n):piece (vcl cf x) 0 x.l.length=x.l.map cf:=by rw[zaK,vcl,List.drop_zero,List.take_of_length_le (by simp)]
theorem vcl_all(cf:α→Value)(x:Vec α n):piece (vcl cf x) 0 n=vcl cf x:=by
 have:=ykT cf x
 rw[x.h]at this;exact this
end
section
variable {P:Program}{w:World}{B:Bas}{S:Mem}{L:List Res}{T T':TypeId}{e:Operand→Value}{x y:Operand}{v:Value}{dst:Option Tmp}{pos:String}{aft:Array Edge}{ty:TypeId}{g:Option (Nat×Bool)}
theorem zyI{α:Type}{n:Nat}{i:Int}{X:Vec α n}{u:α}{cf:α→Value}{b k:Nat}(tg:TOne P T)(H:HS B S w L)(hp:e x = .pointer (some ⟨b,0+i.toNat*1,none⟩))(hk:lkR L k=some (.blk b (vcl cf X) T'))(hi:idx X.l i=some u):
  (execOp e ⟨dst,.load T x,ty,pos,aft,g⟩).run P w = .ok (.value (cf u)) w:=ymT tg H hp hk hi (ykT cf X)
theorem xbW{α:Type}(cf:α→Value)(l:List α)(i:Nat)(u:α)(h:i<l.length):lay (l.map cf) i [cf u]=(l.set i u).map cf:=by
 apply List.ext_getElem?
 intro j
 rw[zdN]
 by_cases hj:j=i
 ·subst hj
  rw[if_pos (by simp;omega)]
  simp[h]
 ·rw[if_neg (by simp;omega),List.getElem?_map,List.getElem?_map,List.getElem?_set_ne (by omega)]
theorem lay_all{l l':LV}(h:l.length=l'.length):lay l 0 l'=l':=by
 apply List.ext_getElem?
 intro j
 rw[zdN]
 by_cases hj:j<l'.length
 ·rw[if_pos (by omega)];simp
 ·rw[if_neg (by omega),List.getElem?_eq_none (by omega),List.getElem?_eq_none (by omega)]
theorem yoW{α:Type}{n:Nat}{i:Int}{X R:Vec α n}{u:α}{cf:α→Value}{b k:Nat}(ts:TSz P T 1)(H:HS B S w L)(hp:e x = .pointer (some ⟨b,0+i.toNat*1,none⟩))(hk:lkR L k=some (.blk b (vcl cf X) T'))(hy:e y=cf u)(h1:(cf u).oneCell'=true)
  (hs:setV X i u=some R):∃w',(execOp e ⟨none,.store T x y,ty,pos,aft,g⟩).run P w = .ok .skip w'∧HS B S w' (stR L k (.blk b (vcl cf R) T')):=by
 obtain⟨h2,h3,h4⟩:=yvM hs
 have:=zlQ (k:=k) (v:=cf u) (l:=[cf u]) (ty:=ty) (pos:=pos) (aft:=aft) (g:=g) ts H hp hk hy (cells_one h1) rfl (by simpa using h1) (by rw[zxK];simp;omega)
 rw[Nat.mul_one,Nat.zero_add,vcl,xbW cf X.l i.toNat u (by rw[X.h];exact h3),←h4]at this
 exact this
theorem yjK{α:Type}{n:Nat}{X Y:Vec α n}{cf:α→Value}{b k:Nat}(ts:TSz P T n)(H:HS B S w L)(hp:e x = .pointer (some ⟨b,0,none⟩))(hk:lkR L k=some (.blk b (vcl cf X) T'))(hy:e y = .agg (vcl cf Y).toArray)(h1:∀u,(cf u).oneCell'=true):
  ∃w',(execOp e ⟨none,.store T x y,ty,pos,aft,g⟩).run P w = .ok .skip w'∧HS B S w' (stR L k (.blk b (vcl cf Y) T')):=by
 have:=zlQ (k:=k) (v:=.agg (vcl cf Y).toArray) (l:=vcl cf Y) (ty:=ty) (pos:=pos) (aft:=aft) (g:=g) ts H hp hk hy (ztE _) (zxK cf Y) (fun u hu=>by
  simp only[vcl,List.mem_map]at hu
  obtain⟨a,_,rfl⟩:=hu
  exact h1 a) (by rw[zxK];simp)
 have e2:lay (vcl cf X) 0 (vcl cf Y)=vcl cf Y:=lay_all (by rw[zxK,zxK])
 rw[e2]at this
 exact this
end
theorem xeF{α:Type}{n:Nat}(cf:α→Value)(x:Vec α n):Nat.ble (0+n) (vcl cf x).length=true:=by rw[zxK];simp
section
variable {P:Program}{e:Operand→Value}{dst:Option Tmp}{x:Operand}{ty:TypeId}{pos:String}{aft:Array Edge}{g:Option (Nat×Bool)}{w:World}
theorem r_com{T'}{k:IntKind}{a r:Int}(hk:k.signed=false)(hx:e x = .int k a)(h:bits .xor k k.max a=r):(execOp e ⟨dst,.unOp .xor T' x,ty,pos,aft,g⟩).run P w = .ok (.value (.int k r)) w:=by
 simp[execOp,hx,Op.unary,hk,Op.intBits,←h,bits]
end
section
variable {P:Program}{w:World}{B:Bas}{S:Mem}{L:List Res}{T T' E dT sT:TypeId}{e:Operand→Value}{x y lo hi:Operand}{dst:Option Tmp}{pos:String}{aft:Array Edge}{ty:TypeId}{g:Option (Nat×Bool)}{k1 k2:IntKind}
theorem yyH{n o b p:Nat}(hu:P.underlying T=some (.array n E))(ts:TSz P E 1)(hx:e x = .pointer (some ⟨b,o,none⟩))(hz:e lo = .int k1 (p:Int))(hp:p<n):
  (execOp e ⟨dst,.slice T x (some lo) none none,ty,pos,aft,g⟩).run P w = .ok (.value (.slice (some ⟨b,o+p,none⟩) (n-p) (n-p))) w:=by
 have hne:¬n=p:=by omega
 simp[execOp,Instr.sliceAt,Instr.sliceBounds,Instr.sureAddr,Go.underlying,hu,hx,hz,zbI (P:=P) (w:=w) (rfl:(p:Int)=(p:Int)) (Nat.le_of_lt hp),ts w,hne,Addr.add]
theorem yuB{n o b h:Nat}(hu:P.underlying T=some (.array n E))(ts:TSz P E 1)(hx:e x = .pointer (some ⟨b,o,none⟩))(hy:e hi = .int k1 (h:Int))(hh:h≤n):
  (execOp e ⟨dst,.slice T x none (some hi) none,ty,pos,aft,g⟩).run P w = .ok (.value (.slice (some ⟨b,o,none⟩) h n)) w:=by
 simp[execOp,Instr.sliceAt,Instr.sliceBounds,Instr.sureAddr,Go.underlying,hu,hx,hy,zbI (P:=P) (w:=w) (rfl:(h:Int)=(h:Int)) hh,ts w,Addr.add]
theorem r_idxAV{α:Type}{n:Nat}{l:List α}{cf:α→Value}{cs:LV}{i:Int}{u:α}(hu:P.underlying T=some (.array n E))(tg:TOne P E)(hx:e x = .agg cs.toArray)(hy:e y = .int k1 i)(hc:cs=l.map cf)(hl:l.length=n)(h:idx l i=some u):
  (execOp e ⟨dst,.index T x y,ty,pos,aft,g⟩).run P w = .ok (.value (cf u)) w:=by
 obtain⟨h1,h2⟩:=zaB h
 have h3:=zbB h
 have hp:=ycZ (l:=cs) (v:=cf u) (o:=i.toNat) tg (by rw[hc,List.getElem?_map,h2];rfl) w
 have ha:0≤i:=by omega
 have hb:i<(n:Int):=by omega
 simp[execOp,Instr.index,asIntOf,Go.underlying,hu,hx,hy,ha,hb,tg.2 w,hp]
theorem xfE{k b o1 o2 n1 c1 n2 c2 n:Nat}{cs l:LV}(hu:P.underlying dT=some (.slice E))(ts:TSz P E 1)(H:HS B S w L)(hx:e x = .slice (some ⟨b,o1,none⟩) n1 c1)(hy:e y = .slice (some ⟨b,o2,none⟩) n2 c2)
  (hk:lkR L k=some (.blk b cs T')) (hn:Nat.min n2 n1=n) (hl:piece cs o2 n=l) (h1:Nat.ble (o1+n) cs.length=true) (h2:Nat.ble (o2+n) cs.length=true) (hone:∀u∈l,u.oneCell'=true):
  ∃w',(execOp e ⟨dst,.call ⟨.builtin .copy,#[x,y],#[dT,sT]⟩,ty,pos,aft,g⟩).run P w = .ok (.value (.int .i64 (n:Int))) w'∧HS B S w' (stR L k (.blk b (lay cs o1 l) T')):=by
 have hb:=H.own k _ hk
 have hlen:l.length=n:=by rw[←hl];exact zgH (Nat.le_of_ble_eq_true h2)
 obtain⟨w',he,hb',hs,h4,h5,h6,h7⟩:=zfR (P:=P) (o:=o1) l 0 w cs hone hb (.inl rfl) (by rw[hlen];have:=Nat.le_of_ble_eq_true h1;omega)
 have hld:=run_loadCells_list (P:=P) w ⟨b,o2,none⟩ l (fun j v hj=>by
  rw[zcJ,zeC hb,←hj,←hl,zaK]
  have:j<n:=by rw[←hlen];exact(List.getElem?_eq_some_iff.1 hj).1
  simp[this])
 rw[hlen]at hld
 refine⟨w',?_,H.upd hk (by omega) h4 h5 h6 (fun i _ hne=>h7 i fun e=>hne (by rw[e];rfl)) hb' fun b' hb'=>.inl hb'⟩
 simp[execOp,resolve,invoke,builtin,hx,hy,Builtin.copy_,Go.underlying,hu,Builtin.lenOf,Builtin.firstCells,ts w,hn,hld,he,goInt]
end
section
variable {P:Program}{ops:Array Oper}{Q:Exit→Act→World→Prop}{rest:List Oper}{n:Nat}{m:FM}{w:World}{d:Nat}{ty:TypeId}{pos:String}{aft:Array Edge}{x:Operand}
variable {nh k:Nat}{Φ:zgC}{W:World}{vs:Nat→Gv}{Fin:Act→Prop}{c:Value}
theorem zpY{args:List Operand}{at_:Array TypeId}{f:FuncId}{l:LV}(hx:evO n m x = .func (.func f) #[] #[])(hk:Φ k=some (.inl c))(hf:zdE ops nh k=false)(hfn:IsFn P f)(ha:args? n m args=l)
  (h:∀w,Ext W w→zfW Φ vs w (zcY ⟨some d,.call ⟨.value x,args.toArray,at_⟩,ty,pos,aft,none⟩)→Calls P f l.toArray w fun e w'=>e = .returned c∧Ext w w') (hr:wpT P ops nh Φ W vs Fin (k+1) rest (fr n ((d,c)::m))):
  wpT P ops nh Φ W vs Fin k (⟨some d,.call ⟨.value x,args.toArray,at_⟩,ty,pos,aft,none⟩::rest) (fr n m):=
 yuX rfl hk hf rfl (fun w hx' hF R hR=>by
  rw[zhQ]
  exact zfV (first:=#[]) (cap:=#[]) hfn hx (by simp[ygO,ha]) ((h w hx' hF).mono fun e w' ⟨he,hx'⟩=>⟨c,he,hR w' hx'⟩)) (by rw[zkA];exact hr)
end
end Go.Proofs.YtmkomlbiaebddaaGreatDoor
