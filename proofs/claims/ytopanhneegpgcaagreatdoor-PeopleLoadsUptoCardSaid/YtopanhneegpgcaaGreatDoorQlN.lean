/- Parts of one proof. Conditions: as each theorem says. -/
import Derived.Test.YtopanhneegpgcaaGreatDoorQlM
open Bool renaming not_true->bM
open List renaming append_nil->bK,eq_nil_of_length_eq_zero->aS,foldl_append->fE,getElem_map->dD,getElem_mem->bE,getElem_take->dT,length->dO,length_cons->aN,length_map->aE,length_take->bA,map->cU,map_append->cT,map_cons->bF,mem_append->bD,mem_cons->aK,mem_cons_of_mem->aL,mem_cons_self->aM,mem_filter->cH,mem_filterMap->cN,mem_iff_getElem->dY,mem_map->aR,mem_singleton->aT,pairwise_append->dH,pairwise_iff_getElem->bW,pairwise_map->bI,pairwise_singleton->bZ,take_length->dN,take_succ_eq_append_getElem->cD
open Nat renaming le_trans->bC,lt_or_ge->cY,zero_le->aZ
open Option renaming bind->aQ
namespace Go.Proofs.YtopanhneegpgcaaGreatDoor.Am
open Go Go.RowKit
section
variable {κ γ:Type}{eq lt:κ->κ->Bool}
def sets(eq lt:κ->κ->Bool)(l:List (κ×γ))(m:List (κ×γ)):List (κ×γ):=l.foldl (fun m p=>mset eq lt m p.1 p.2) m
theorem KO.sets_mem(o:KO eq lt):∀(l m:List (κ×γ)),Ri lt m->(l.map (·.1)).Nodup->(∀p∈l,∀q∈m,p.1≠q.1)->Ri lt (sets eq lt l m)/\∀p,p∈sets eq lt l m↔p∈l∨p∈m
 |[],m,hm,_,_=>⟨hm,fun p=>by simp[sets]⟩|x::l,m,hm,hn,hd=>by
  rw[bF,List.nodup_cons]at hn
  have ih:=o.sets_mem l (mset eq lt m x.1 x.2) (o.set_ri hm) hn.2 (fun p hp q hq=>by
   rcases(o.set_mem hm).1 hq with rfl|⟨h1,_⟩
   ·intro e;exact hn.1 (aR.2 ⟨p,hp,e⟩)
   ·exact hd p (aL _ hp) q h1)
  refine⟨ih.1,fun p=>?_⟩;show p∈sets eq lt l (mset eq lt m x.1 x.2)↔_;rw[ih.2 p,o.set_mem hm,aK];constructor
  ·rintro(h|h|⟨h,_⟩)
   ·exact .inl (.inr h)
   ·exact .inl (.inl h)
   ·exact .inr h
  ·rintro((h|h)|h)
   ·exact .inr (.inl h)
   ·exact .inl h
   ·exact .inr (.inr ⟨h,(hd x aM p h).symm⟩)
theorem KO.sets_perm(o:KO eq lt){M l:List (κ×γ)}(hM:Ri lt M)(hp:l.Perm M):sets eq lt l []=M:=by have hn:(M.map (·.1)).Nodup:=(bI.2 (hM.imp fun {p q} hpq=>o.lt_ne hpq):(M.map (·.1)).Pairwise (· ≠ ·));have h:=o.sets_mem l [] .nil (((hp.map (·.1)).nodup_iff).2 hn) (fun p _ q hq=>by cases hq);exact o.ext h.1 hM fun p=>by rw[h.2 p,hp.mem_iff];simp
end
def eU:Ent->Option (L8×Us)
 |.u x=>some (x.1,x)|_=>none
def eG:Ent->Option (L8×Gr)
 |.g x=>some (x.1,((x.2.1,x.2.2.1,x.2.2.2.1),x.2.2.2.2))|_=>none
def eR:Ent->Option (L8×Ro)
 |.r x=>some (x.1,x)|_=>none
def eC:Ent->Option (L8×Cl)
 |.c x=>some (x.1,x)|_=>none
def eM:Ent->Option ((L8×L8)×Unit)
 |.m x=>some (x,())|_=>none
def bld(L:List Ent)(t:PS):PS:=L.foldl (fun s e=>e.put s) t
theorem yiU:∀(L:List Ent) (t:PS),bld L t=(sets keqS kltS (L.filterMap eU) t.1,sets keqS kltS (L.filterMap eG) t.2.1,sets keqS kltS (L.filterMap eR) t.2.2.1,sets keqS kltS (L.filterMap eC) t.2.2.2.1,sets keqM kltM (L.filterMap eM) t.2.2.2.2)
 |[],t=>rfl|e::L,t=>by show bld L (e.put t)=_;rw[yiU L];cases e<;>rfl
def ents(s:PS):List Ent:=(clE s).map .c++((grE s).map .g++((maE s).map .m++((roE s).map .r++(usE s).map .u)))
theorem ents_row(s:PS):(ents s).map Ent.row=ybL s:=by unfold ents ybL;simp only[cT,List.map_map];rfl
theorem yuO{α:Type}{f:α->α}:∀{l:List α},(∀x∈l,f x=x)->l.map f=l
 |[],_=>rfl|x::l,h=>by rw[bF,h x aM,yuO fun y hy=>h y (aL _ hy)]
theorem load_it{L:List Ent}(hok:∀e∈L,e.ok/\e.sm)(hl:L.length<=1048576)(hr:(L.map Ent.row).Pairwise fun x y=>kltS x.1 y.1=true):
  iter (fun x:Int×PS=>zfS zaB (L.map Ent.row) x.1 x.2.1 x.2.2.1 x.2.2.2.1 x.2.2.2.2.1 x.2.2.2.2.2) ((0:Int),s0)=some (.inr (bld L s0)):=by
 have key:∀(f i:Nat),f+i=L.length->∀g,f<g->ziC (fun x:Int×PS=>zfS zaB (L.map Ent.row) x.1 x.2.1 x.2.2.1 x.2.2.2.1 x.2.2.2.2.1 x.2.2.2.2.2) g ((i:Int),bld (L.take i) s0)=some (.inr (bld L s0)):=by
  intro f;induction f with
  |zero=>
   intro i hi g hg;obtain⟨g,rfl⟩:∃m,g=m+1:=⟨g-1,by omega⟩;have hi:i=L.length:=by omega
   subst hi;rw[dN];refine zaW ?_;unfold zfS;simp only;rw[zaY (by rw[aE];omega)]
  |succ f ih=>
   intro i hi g hg;obtain⟨g,rfl⟩:∃m,g=m+1:=⟨g-1,by omega⟩;have hlt:i<L.length:=by omega
   have hlt2:i<(L.map Ent.row).length:=by rw[aE];exact hlt
   have hb:bld (L.take (i+1)) s0=L[i].put (bld (L.take i) s0):=by unfold bld;rw[cD hlt,fE];rfl
   have ht:=yvJ (hok _ (bE hlt)).1 (hok _ (bE hlt)).2 (bld (L.take i) s0);generalize bld (L.take i) s0=t at ht hb ⊢
   rw[zaV (s':=(((i+1:Nat):Int),bld (L.take (i+1)) s0)) (by
    rw[hb];unfold zfS;simp only;rw[zaX (by omega),zbD rfl hlt2,zaA,dD];cases i with
    |zero=>rw[zaY (by omega),ht,zaA,zfA (by omega)];rfl|succ i=>
     have hp:i<(L.map Ent.row).length:=by omega
     rw[zaX (by omega),show w64 (((i+1:Nat):Int)-1)=(i:Int) by rw[zuG (by omega) (by omega)];omega,zbD rfl hp,zaA,dD];have h1:=bW.1 hr i (i+1) hp hlt2 (by omega);rw[dD,dD]at h1;have h2:Op.bytesLess L[i+1].row.1 L[i].row.1=false:=by
      show kltS _ _=false;cases hy:kltS L[i+1].row.1 L[i].row.1 with
      |false=>rfl|true=>have:=kS.tr h1 hy;rw[kS.irr]at this;cases this
     rw[h2,beq_false_of_ne (kS.lt_ne h1).symm,Bool.false_or,zF,ht,zaA,zfA (by omega)]
     rfl)]
   exact ih (i+1) (by omega) g (by omega)
 exact key L.length 0 (by omega) FU (by unfold FU;omega)
def Sm(l:List L8):Prop:=l.length<=1048576/\∀t∈l,t.length<=1048576
theorem Sm.tail{t:L8}{l:List L8}(h:Sm (t::l)):Sm l:=⟨bC (Nat.le_succ _) h.1,fun x hx=>h.2 x (aL _ hx)⟩
theorem Sm.drop{l:List L8}(h:Sm l)(n:Nat):Sm (l.drop n):=⟨bC (List.drop_sublist n l).length_le h.1,fun x hx=>h.2 x (List.mem_of_mem_drop hx)⟩
theorem ydV{l:List L8}{b:Bool}(h:Sm l):T (zcH zaB l b) fun r=>Sm r.2.1/\r.1.length<=1048576/\(r.2.2=false->b=false/\l=r.1::r.2.1):=by
 cases l with
 |nil=>exact⟨_,rfl,h,aZ _,fun e=>by cases e⟩|cons t l=>exact⟨_,ycC t l b,h.tail,h.2 t aM,fun e=>⟨e,rfl⟩⟩
theorem rnum_i{l:List L8}{b:Bool}(h:Sm l):T (zcW zaB l b) fun r=>Sm r.2.1/\0<=r.1/\(r.2.2=false->b=false/\r.1<1000000000000000/\l=Lib.decDigits r.1.toNat::r.2.1):=by
 unfold zcW;refine(ydV h).bind fun r hr=>?_;rw[ydU r.1 hr.2.1,zaA];have h0:0<=(numR r.1).1:=by unfold numR;cases numB r.1<;>simp
 refine T.bif (fun e=>T.ok ⟨hr.1,h0,fun e2=>by cases e2⟩) fun e=>T.ok ⟨hr.1,h0,fun e2=>?_⟩;obtain⟨h1,h2⟩:=hr.2.2 e;have h3:(numR r.1).2=true:=not_f e2;unfold numR at h3 ⊢;cases hn:numB r.1 with
 |false=>rw[hn]at h3;cases h3
 |true=>
  obtain⟨h4,h5⟩:=ybT hn;refine⟨h1,?_,?_⟩
  ·simp only[zE];omega
  ·simp only[zE,Int.toNat_natCast];rw[h4];exact h2
theorem rver_i{l:List L8}{b:Bool}(h:Sm l):T (zcO zaB l b) fun r=>Sm r.2.1/\(r.2.2=false->b=false/\(1<=r.1/\r.1<=1099511627776)/\l=Lib.decDigits r.1.toNat::r.2.1):=by unfold zcO;refine(rnum_i h).bind fun r hr=>T.bif (fun e=>T.ok ⟨hr.1,fun e2=>by cases e2⟩) fun e=>T.dif (fun e1=>T.ok ⟨hr.1,fun e2=>by cases e2⟩) fun e1=>T.ok ⟨hr.1,fun e2=>?_⟩;obtain⟨h1,_,h3⟩:=hr.2.2 e;have h4:=of_decide_eq_false e2;exact⟨h1,⟨by omega,by omega⟩,h3⟩
theorem ygZ(t:L8)(l:List L8)(b:Bool):T (zcF zaB t l b) fun r=>r.2.1=l/\(r.2.2=false->b=false/\t=dgE r.1):=by
 unfold zcF;refine T.bif (fun e=>T.ok ⟨rfl,fun e2=>by cases e2⟩) fun e=>T.bif (fun e1=>T.ok ⟨rfl,fun e2=>⟨e,?_⟩⟩) fun e1=>T.ok ⟨rfl,fun e2=>⟨e,?_⟩⟩
 ·have h1:t=[49]:=by simpa using e2
  rw[h1];rfl
 ·have h1:t=[48]:=by simpa using e1
  rw[h1];rfl
theorem yeI{l:List L8}{b:Bool}(h:Sm l):T (zbX zaB l b) fun r=>Sm r.2.1/\r.1.length<=1048576/\(r.2.2=false->b=false/\l=lisE r.1++r.2.1):=by
 unfold zbX zmE;refine(rnum_i h).bind fun r hr=>?_;cases e:r.2.2 with
 |true=>exact T.ok ⟨hr.1,aZ _,fun e2=>by cases e2⟩|false=>
  obtain⟨h1,_,h3⟩:=hr.2.2 e;rw[zF];by_cases hlt:r.1>(r.2.1.length:Int)
  ·rw[zaX hlt];exact T.ok ⟨hr.1,aZ _,fun e2=>by cases e2⟩
  ·rw[zaY hlt,zaA];simp only;have hl:=hr.1.1;obtain⟨n,hn⟩:∃n:Nat,r.1=n:=⟨r.1.toNat,by omega⟩;rw[hn,zpP (by omega),zaA,zmZ _ (by rw[bA];omega),zaA,zsI (by omega),zaA];refine T.ok ⟨hr.1.drop _,by rw[bA];omega,fun e2=>⟨h1,?_⟩⟩;rw[h3,hn];unfold lisE;rw[bA,Nat.min_eq_left (by omega),List.cons_append,List.take_append_drop];rfl
theorem yoB{m:UInt8}:∀{s:L8},m∉s->Lib.index s [m] = -1
 |[],_=>by simp[Lib.index]
 |b::l,h=>by have hb:b≠m:=fun e=>h (by rw[e];exact aM);rw[yaU,zH (by simp[List.isPrefixOf];exact fun e=>hb e.symm),yoB fun hm=>h (aL _ hm),zI rfl]
theorem cut_i(m:UInt8){s:L8}(h:s.length<=1048576):T (zaB.cut s [m]) fun r=>r.1.length<=1048576/\r.2.1.length<=1048576/\(r.2.2=true->s=r.1++m::r.2.1/\m∉r.1):=by
 by_cases hm:m∈s
 ·obtain⟨a,b,rfl,ha⟩:=List.eq_append_cons_of_mem hm;have hl:a.length+(b.length+1)<=1048576:=by simpa using h
  exact⟨_,cut_b ha h,by simp only;omega,by simp only;omega,fun _=>⟨rfl,ha⟩⟩
 ·refine⟨(s,[],false),?_,h,aZ _,fun e=>by cases e⟩;show cutP s [m]=_;unfold cutP;rw[zA (show s.length<4294967281 by omega)];unfold Lib.cut;rw[yoB hm];rfl
theorem take_inv{k n:L8}{ts:List L8}(_hk:k.length<=1048576)(hn:n.length<=1048576)(hs:Sm ts)(s:PS):
  T (zbI zaB (ts,true) (k,n,true) s) fun r=>match r with
   |.inl r=>r.1=false|.inr r=>r.1=true->r.2.2.2.2.2.2.2=false->r.2.2.2.2.2.2.1=[]->∃e:Ent,e.ok/\e.row=(k++47::n,zdC ts):=by
 unfold zbI;refine T.bif (fun e=>?_) fun e=>T.bif (fun e=>?_) fun e=>T.bif (fun e=>?_) fun e=>T.bif (fun e=>?_) fun e=>T.bif (fun e=>?_) fun e=>T.ok fun e2=>by cases e2
 ·have e:k=[99,108,105,101,110,116]:=by simpa using e
  refine(ydV hs).bind fun r1 h1=>(ydV h1.1).bind fun r2 h2=>T.bif (fun _=>T.ok rfl) fun e4=>?_;have e4:(r2.1.length:Int)=4:=by simpa using e4
  obtain⟨a,b,c,d,hf⟩:∃a b c d,r2.1=[a,b,c,d]:=by
   match hr:r2.1,(show r2.1.length=4 by omega) with
   |[a,b,c,d],_=>exact⟨a,b,c,d,rfl⟩
  rw[hf,show subH [a,b,c,d] (1:Int)=some [a]from rfl,zaA,show sub3 [a,b,c,d] (1:Int) (2:Int)=some [b]from rfl,zaA,show sub3 [a,b,c,d] (2:Int) (3:Int)=some [c]from rfl,zaA,show subL [a,b,c,d] (3:Int)=some [d]from rfl,zaA];refine(ygZ _ _ _).bind fun q1 g1=>(ygZ _ _ _).bind fun q2 g2=>(ygZ _ _ _).bind fun q3 g3=>(ygZ _ _ _).bind fun q4 g4=>?_;refine(yeI (show Sm q4.2.1 by rw[g4.1,g3.1,g2.1,g1.1];exact h2.1)).bind fun p1 k1=>(yeI k1.1).bind fun p2 k2=>?_;rw[cli_ok (c:=(n,r1.1,p1.1,p2.1,q1.1,q2.1,q3.1,q4.1)) h1.2.1 k1.2.1 k2.2.1,zaA];refine T.ok fun c1 c2 c3=>?_;obtain⟨f2,l2⟩:=k2.2.2 c2;obtain⟨f1,l1⟩:=k1.2.2 f2;obtain⟨z4,y4⟩:=g4.2 f1;obtain⟨z3,y3⟩:=g3.2 z4;obtain⟨z2,y2⟩:=g2.2 z3;obtain⟨z1,y1⟩:=g1.2 z2;obtain⟨x2,w2⟩:=h2.2.2 z1;obtain⟨_,w1⟩:=h1.2.2 x2;refine⟨.c (n,r1.1,p1.1,p2.1,q1.1,q2.1,q3.1,q4.1),c1,?_⟩;have c3:p2.2.1=[]:=c3;rw[c3,bK]at l2;rw[g4.1,g3.1,g2.1,g1.1,l2]at l1;show rowC _=_;unfold rowC txC;simp only;rw[e,w1,w2,l1,hf,<-y1,<-y2,<-y3,<-y4];rfl
 ·have e:k=[103,114,111,117,112]:=by simpa using e
  refine(rver_i hs).bind fun r1 h1=>?_;obtain⟨p1,q1,k1⟩:=yeI (b:=r1.2.2) h1.1;obtain⟨p2,q2,k2⟩:=yeI (b:=p1.2.2) k1.1;obtain⟨p3,q3,k3⟩:=yeI (b:=p2.2.2) k2.1
  have key:∀g,4<=g->ziC (fun(y:Int×UM×GM×RM×CM×MM×List L8×Bool×List L8×List L8×List L8×Int)=>zaO zaB y.1 y.2.1 y.2.2.1 y.2.2.2.1 y.2.2.2.2.1 y.2.2.2.2.2.1 y.2.2.2.2.2.2.1 y.2.2.2.2.2.2.2.1 y.2.2.2.2.2.2.2.2.1 y.2.2.2.2.2.2.2.2.2.1 y.2.2.2.2.2.2.2.2.2.2.1 y.2.2.2.2.2.2.2.2.2.2.2) g ((0:Int),s.1,s.2.1,s.2.2.1,s.2.2.2.1,s.2.2.2.2,r1.2.1,r1.2.2,([]:List L8),([]:List L8),([]:List L8),r1.1)=some (s.1,s.2.1,s.2.2.1,s.2.2.2.1,s.2.2.2.2,p3.2.1,p3.2.2,p1.1,p2.1,p3.1,r1.1):=by
   intro g hg;obtain⟨g,rfl⟩:∃m,g=m+1+1+1+1:=⟨g-4,by omega⟩
   rw[zaV (s':=((1:Int),s.1,s.2.1,s.2.2.1,s.2.2.2.1,s.2.2.2.2,p1.2.1,p1.2.2,p1.1,([]:List L8),([]:List L8),r1.1)) (by
    unfold zaO;simp only
    rw[zaX (by decide),q1,zaA,zaX trivial];rfl)]
   rw[zaV (s':=((2:Int),s.1,s.2.1,s.2.2.1,s.2.2.2.1,s.2.2.2.2,p2.2.1,p2.2.2,p1.1,p2.1,([]:List L8),r1.1)) (by
    unfold zaO;simp only
    rw[zaX (by decide),q2,zaA,zaY (by decide),zaX trivial];rfl)]
   rw[zaV (s':=((3:Int),s.1,s.2.1,s.2.2.1,s.2.2.2.1,s.2.2.2.2,p3.2.1,p3.2.2,p1.1,p2.1,p3.1,r1.1)) (by
    unfold zaO;simp only
    rw[zaX (by decide),q3,zaA,zaY (by decide),zaY (by decide),zaX trivial];rfl)]
   refine zaW ?_;unfold zaO;simp only;rw[zaY (by decide)]
  simp only;rw[show iter (fun(y:Int×UM×GM×RM×CM×MM×List L8×Bool×List L8×List L8×List L8×Int)=>zaO zaB y.1 y.2.1 y.2.2.1 y.2.2.2.1 y.2.2.2.2.1 y.2.2.2.2.2.1 y.2.2.2.2.2.2.1 y.2.2.2.2.2.2.2.1 y.2.2.2.2.2.2.2.2.1 y.2.2.2.2.2.2.2.2.2.1 y.2.2.2.2.2.2.2.2.2.2.1 y.2.2.2.2.2.2.2.2.2.2.2) _=_ from key FU (by unfold FU;omega),zaA];simp only;rw[ynL,zaA];refine T.ok fun c1 c2 c3=>?_;obtain⟨f3,l3⟩:=k3.2.2 c2;obtain⟨f2,l2⟩:=k2.2.2 f3;obtain⟨f1,l1⟩:=k1.2.2 f2;obtain⟨_,⟨v1,v2⟩,w1⟩:=h1.2 f1;have c3:p3.2.1=[]:=c3;rw[c3,bK]at l3;refine⟨.g (n,p1.1,p2.1,p3.1,r1.1),⟨c1,v1,v2⟩,?_⟩;show rowG _=_;unfold rowG txG;simp only;rw[e,w1,l1,l2,l3];rfl
 ·have e:k=[109,97,121]:=by simpa using e
  refine(cut_i 124 hn).bind fun r1 h1=>T.bif (fun e4=>?_) fun e4=>T.ok fun c1=>by cases c1
  obtain⟨hc,_⟩:=h1.2.2 e4;rw[yxT,zaA];cases hp:prB r1.1 with
  |false=>exact T.ok fun c1=>by cases c1
  |true=>rw[zE,yxT,zaA];refine T.ok fun c1 c2 c3=>⟨.m (r1.1,r1.2.1),⟨hp,c1⟩,?_⟩;have c3:ts=[]:=c3;show rowM _=_;unfold rowM;rw[e,c3,hc];simp
 ·have e:k=[114,111,108,101]:=by simpa using e
  refine(yeI hs).bind fun r1 h1=>?_;rw[xaI (r:=(n,r1.1)) h1.2.1,zaA];refine T.ok fun c1 c2 c3=>?_;obtain⟨_,l1⟩:=h1.2.2 c2;have c3:r1.2.1=[]:=c3;rw[c3,bK]at l1;refine⟨.r (n,r1.1),c1,?_⟩;show rowR _=_;unfold rowR;rw[e,l1];rfl
 ·have e:k=[117,115,101,114]:=by simpa using e
  refine(ydV hs).bind fun r1 h1=>(ydV h1.1).bind fun r2 h2=>(ygZ _ _ _).bind fun q1 g1=>(rver_i (show Sm q1.2.1 by rw[g1.1];exact h2.1)).bind fun p1 k1=>?_;rw[ynL,zaA];cases hnm:nmB n with
  |false=>exact T.ok fun c1=>by cases c1
  |true=>rw[zE,xcI,zaA];refine T.ok fun c1 c2 c3=>?_;obtain⟨f1,⟨v1,v2⟩,l1⟩:=k1.2 c2;obtain⟨z1,y1⟩:=g1.2 f1;obtain⟨x2,w2⟩:=h2.2.2 z1;obtain⟨_,w1⟩:=h1.2.2 x2;have c3:p1.2.1=[]:=c3;rw[c3,g1.1]at l1;refine⟨.u (n,r1.1,q1.1,p1.1),⟨hnm,c1,v1,v2⟩,?_⟩;show rowU _=_;unfold rowU txU;simp only;rw[e,w1,w2,l1,<-y1];rfl
theorem takes_t{x:L8×L8}(h1:x.1.length<=1048576)(h2:x.2.length<=1048576)(s:PS):T (zaM zaB x s.1 s.2.1 s.2.2.1 s.2.2.2.1 s.2.2.2.2) fun r=>r.1=true->∃e:Ent,e.ok/\e.row=x:=by
 unfold zaM;rw[xaO,yoS h2,zaA];refine(cut_i 47 h1).bind fun c hc=>?_;unfold ziM;cases hf:(txtP x.2).2 with
 |false=>exact T.ok fun e=>by cases e
 |true=>
  cases hs:c.2.2 with
  |false=>exact T.ok fun e=>by cases e
  |true=>
   simp only[bM,zF,zaA];obtain⟨hx,_⟩:=hc.2.2 hs;obtain⟨ts,ht⟩:∃ts,txtF x.2.length x.2=some ts:=Option.isSome_iff_exists.1 hf;have e1:txtP x.2=(ts,true):=by unfold txtP;rw[ht];rfl
   have e2:c=(c.1,c.2.1,true):=by rw[<-hs]
   have hlen:=xfC ht;rw[e1,e2];refine(take_inv (s:=s) hc.1 hc.2.1 (show Sm ts from⟨by omega,fun t hh=>bC (hlen.2 t hh) h2⟩)).bind fun r hr=>?_;cases r with
   |inl r=>exact T.ok fun e=>by rw[hr]at e;cases e
   |inr r=>
    refine T.bif (fun a=>T.bif (fun b=>T.ok fun d=>?_) fun b=>T.ok fun d=>by cases d) fun a=>T.ok fun d=>by cases d
    have hl:r.2.2.2.2.2.2.1=[]:=by
     have:(r.2.2.2.2.2.2.1.length:Int)=0:=by simpa using d
     exact aS (by omega)
    obtain⟨e,h3,h4⟩:=hr a (by simpa using b) hl;refine⟨e,h3,h4.trans ?_⟩;rw[<-hx,ygK ht]
theorem yrJ:∀ts:List L8,ts.length<=(zdC ts).length/\∀t∈ts,t.length<=(zdC ts).length
 |[]=>⟨Nat.le_refl _,fun t h=>by cases h⟩|t::ts=>by
  obtain⟨h1,h2⟩:=yrJ ts;have e:(zdC (t::ts)).length=(Lib.decDigits t.length).length+(t.length+(zdC ts).length+1):=by show(Lib.decDigits t.length++58::(t++zdC ts)).length=_;simp
  refine⟨by rw[e,aN];omega,fun x hx=>?_⟩;rcases aK.1 hx with rfl|hx
  ·omega
  ·have:=h2 x hx;omega
theorem sm_of{e:Ent}(h:e.row.2.length<=1048576):e.sm:=by
 cases e with
 |g x=>
  have h:(zdC (txG x)).length<=1048576:=h;have h1:=(yrJ (txG x)).1;have h2:(txG x).length=1+(x.2.1.length+1+(x.2.2.1.length+1+(x.2.2.2.1.length+1))):=by unfold txG lisE;simp only[List.length_append,aN,List.length_nil]
  exact⟨⟨by omega,by omega,by omega⟩,by omega,by omega⟩
 |c x=>trivial|m x=>trivial|r x=>trivial|u x=>trivial
def zmF(rows:List (L8×L8))(L:List Ent):Prop:=(∀e∈L,e.ok)/\rows=L.map Ent.row/\rows.Pairwise fun x y=>kltS x.1 y.1=true
theorem load_t{rows:List (L8×L8)}(hl:rows.length<=1048576)(hz:∀x∈rows,x.1.length<=1048576/\x.2.length<=1048576):
  T (iter (fun x:Int×PS=>zfS zaB rows x.1 x.2.1 x.2.2.1 x.2.2.2.1 x.2.2.2.2.1 x.2.2.2.2.2) ((0:Int),s0)) fun r=>(∃L,zmF rows L/\r = .inr (bld L s0))∨((¬∃L,zmF rows L)/\r = .inl 125):=by
 refine T.iter (fun x:Int×PS=>∃i:Nat,x.1=(i:Int)/\i<=rows.length/\∃L,zmF (rows.take i) L/\x.2=bld L s0) (fun x:Int×PS=>((rows.length:Int)-x.1).toNat) _ (fun x hx=>?_) ⟨0,rfl,aZ _,[],⟨(fun e h=>by cases h),rfl,List.Pairwise.nil⟩,rfl⟩ (by simp only;omega);obtain⟨i,hi,hil,L,⟨hok,hrow,hris⟩,hs⟩:=hx;obtain⟨x1,x2⟩:=x;have hi:x1=(i:Int):=hi;have hs:x2=bld L s0:=hs;subst hi;simp only;unfold zfS;by_cases hlt:i<rows.length
 ·have hmem:=bE hlt;have hzi:=hz _ hmem;have htk:rows.take (i+1)=rows.take i++[rows[i]]:=cD hlt
  -- the row is looked at
  have look:(∀y∈rows.take i,kltS y.1 rows[i].1=true)->T (aQ (zaM zaB rows[i] x2.1 x2.2.1 x2.2.2.1 x2.2.2.2.1 x2.2.2.2.2) fun v10=>(bif(!v10.1)then some (.inr (.inl (125:Int)))else some (.inl (w64 ((i:Int)+(1:Int)),v10.2)):Option ((Int×PS)⊕(Int⊕PS)))) fun r=>match r with
    |.inl s'=>(∃j:Nat,s'.1=(j:Int)/\j<=rows.length/\∃L,zmF (rows.take j) L/\s'.2=bld L s0)/\((rows.length:Int)-s'.1).toNat<((rows.length:Int)-(i:Int)).toNat|.inr b=>(∃L,zmF rows L/\b = .inr (bld L s0))∨((¬∃L,zmF rows L)/\b = .inl 125):=fun hup=>by
   by_cases he:∃e:Ent,e.ok/\e.row=rows[i]
   ·obtain⟨e,h3,h4⟩:=he;have ht:=yvJ h3 (sm_of (by rw[h4];exact hzi.2)) x2;rw[h4]at ht;rw[ht,zaA,bM,zF,zfA (by omega)];refine T.ok ⟨⟨i+1,rfl,hlt,L++[e],⟨fun y hy=>?_,?_,?_⟩,?_⟩,by simp only;omega⟩
    ·rcases bD.1 hy with hy|hy
     ·exact hok y hy
     ·rw[aT.1 hy];exact h3
    ·rw[htk,hrow,cT];simp[h4]
    ·rw[htk];exact dH.2 ⟨hris,bZ _ _,fun a ha b hb=>by rw[aT.1 hb];exact hup a ha⟩
    ·unfold bld at hs ⊢;rw[fE,<-hs];rfl
   ·refine(takes_t hzi.1 hzi.2 x2).bind fun r hr=>?_;have hf:r.1=false:=by
     cases hb:r.1 with
     |false=>rfl|true=>exact absurd (hr hb) he
    rw[hf];refine T.ok (.inr ⟨fun⟨L',hL'⟩=>he ?_,rfl⟩);have hm:rows[i]∈L'.map Ent.row:=by rw[<-hL'.2.1];exact hmem
    obtain⟨e,h5,h6⟩:=aR.1 hm;exact⟨e,hL'.1 e h5,h6⟩
  rw[zaX (by omega),zbD rfl hlt,zaA];cases i with
  |zero=>rw[zaY (by omega)];exact(look fun y hy=>by cases hy).mono fun r hr=>by cases r<;>exact hr
  |succ i=>
   have hp:i<rows.length:=by omega
   rw[zaX (by omega),show w64 (((i+1:Nat):Int)-1)=(i:Int) by rw[zuG (by omega) (by omega)];omega,zbD rfl hp,zaA];cases hq:(Op.bytesLess rows[i+1].1 rows[i].1||rows[i+1].1==rows[i].1) with
   |true=>
    refine T.ok (.inr ⟨fun⟨L',hL'⟩=>?_,rfl⟩);have h1:=bW.1 hL'.2.2 i (i+1) hp hlt (by omega);have h2:Op.bytesLess rows[i+1].1 rows[i].1=false:=by
     show kltS _ _=false;cases hy:kltS rows[i+1].1 rows[i].1 with
     |false=>rfl|true=>have:=kS.tr h1 hy;rw[kS.irr]at this;cases this
    rw[h2,beq_false_of_ne (kS.lt_ne h1).symm]at hq;cases hq
   |false=>
    rw[zF];refine(look fun y hy=>?_).mono fun r hr=>by cases r<;>exact hr
    have hq1:=(or_f hq).1;have hq2:rows[i+1].1≠rows[i].1:=by have:=(or_f hq).2;simpa using this
    have hk:kltS rows[i].1 rows[i+1].1=true:=kS.tri (show kltS rows[i+1].1 rows[i].1=false from hq1) hq2;obtain⟨j,hj,rfl⟩:=dY.1 hy;have hj2:j<i+1:=by rw[bA]at hj;omega
    rw[dT];rcases cY j i with h|h
    ·have hji:=bW.1 hris j i (by rw[bA];omega) (by rw[bA];omega) h;rw[dT,dT]at hji;exact kS.tr hji hk
    ·obtain rfl:j=i:=by omega
     exact hk
 ·have hi:i=rows.length:=by omega
  subst hi;rw[zaY (by omega)];rw[dN]at hrow hris;exact T.ok (.inl ⟨L,⟨hok,hrow,hris⟩,by rw[<-hs]⟩)
def NoCyc(G:GM):Prop:=∀k g,(k,g)∈G->∀x∈lst 1 g,¬Reach G x k
structure PPre (s:PS):Prop where
 uR:Ri kltS s.1
 gR:Ri kltS s.2.1
 rR:Ri kltS s.2.2.1
 cR:Ri kltS s.2.2.2.1
 mR:Ri kltM s.2.2.2.2
 us:∀k u,(k,u)∈s.1->u.1=k/\nmB k=true/\txB u.2.1=true/\1<=u.2.2.2/\u.2.2.2<=1099511627776
 gn:∀k g,(k,g)∈s.2.1->nmB k=true/\1<=g.2/\g.2<=1099511627776
 ro:∀k r,(k,r)∈s.2.2.1->r.1=k/\ydO r=true
 cl:∀k c,(k,c)∈s.2.2.2.1->c.1=k/\cliB c=true
 ma:∀p,p∈s.2.2.2.2->prB p.1.1=true/\prB p.1.2=true
 sz:∀k g,(k,g)∈s.2.1->∀i,i<3->(lst i g).length<=1048576
 gz:s.2.1.length<=1048576
structure zoH (s:PS):Prop where
 uL:s.1.length<=64
 gL:s.2.1.length<=32
 rL:s.2.2.1.length<=32
 cL:s.2.2.2.1.length<=32
 mL:s.2.2.2.2.length<=64
 gl:∀k g,(k,g)∈s.2.1->∀i,i<3->RiL (lst i g)/\∀x∈lst i g,hasK i s x=true
 ma:∀p,p∈s.2.2.2.2->thB s p.1.1=true/\thB s p.1.2=true
 nc:NoCyc s.2.1
theorem ykK{α:Type}{q r:α->Bool}:∀{l:List α},(∀p∈l,q p=true->r p=true)->(l.filter q).Sublist (l.filter r)
 |[],_=>.slnil|x::l,h=>by
  have ih:=ykK (l:=l) fun p hp=>h p (aL _ hp);rw[List.filter_cons,List.filter_cons];cases hq:q x with
  |false=>
   cases hr:r x with
   |false=>exact ih|true=>exact ih.cons x
  |true=>rw[h x aM hq];exact ih.cons_cons x
open Classical in
theorem acy_of{G:GM}(h:NoCyc G):Acy G:=by
 refine⟨fun x=>(G.filter fun p=>decide (Reach G x p.1)).length,fun n g hg x hx=>?_⟩;have hsub:(G.filter fun p=>decide (Reach G x p.1)).Sublist (G.filter fun p=>decide (Reach G n p.1)):=by refine ykK fun p _ hp=>?_;exact zA ((Reach.step .refl hg hx).trans (zC hp))
 rcases cY (G.filter fun p=>decide (Reach G x p.1)).length (G.filter fun p=>decide (Reach G n p.1)).length with h1|h1
 ·exact h1
 ·have e:=hsub.eq_of_length_le h1;have hm:(n,g)∈G.filter fun p=>decide (Reach G n p.1):=cH.2 ⟨hg,zA .refl⟩;rw[<-e]at hm;exact absurd (zC (cH.1 hm).2) (h n g hg x hx)
theorem PPre.inv{s:PS}(h:PPre s)(w:zoH s):PInv 1099511627776 s where
 uR:=h.uR
 gR:=h.gR
 rR:=h.rR
 cR:=h.cR
 mR:=h.mR
 uL:=w.uL
 gL:=w.gL
 rL:=w.rL
 cL:=w.cL
 mL:=w.mL
 us:=h.us
 gn:=h.gn
 gl:=w.gl
 ro:=h.ro
 cl:=h.cl
 ma:=fun p hp=>⟨(h.ma p hp).1,(h.ma p hp).2,(w.ma p hp).1,(w.ma p hp).2⟩
 ac:=acy_of w.nc
theorem ynS{l:List L8}{may:L8->Bool}(hl:l.length<=1048576){s:PS}{body:Int×PS->Option ((Int×PS)⊕((Bool×PS)⊕PS))} (hb:∀(k:Nat) (hk:k<l.length),body ((k:Int),s)=bif !(may l[k])then some (.inr (.inl (false,s)))else bif decide ((k:Int)>(0:Int))then((idx l (w64 ((k:Int)-(1:Int)))).bind fun v15=>bif(Op.bytesLess l[k] v15||l[k]==v15)then some (.inr (.inl (false,s)))else some (.inl (w64 ((k:Int)+(1:Int)),s)))else some (.inl (w64 ((k:Int)+(1:Int)),s))) (he:body ((l.length:Int),s)=some (.inr (.inr s))):T (iter body ((0:Int),s)) fun r=>r = .inl (false,s)∨(r = .inr s/\RiL l/\∀x∈l,may x=true):=by
 refine T.iter (fun x:Int×PS=>∃i:Nat,x=((i:Int),s)/\i<=l.length/\RiL (l.take i)/\∀x∈l.take i,may x=true) (fun x=>((l.length:Int)-x.1).toNat) _ (fun x hx=>?_) ⟨0,rfl,aZ _,List.Pairwise.nil,fun x h=>by cases h⟩ (by simp only;omega);obtain⟨i,rfl,hi,h1,h2⟩:=hx;rcases cY i l.length with hlt|hge
 ·have htk:l.take (i+1)=l.take i++[l[i]]:=cD hlt;rw[hb i hlt];cases hm:may l[i] with
  |false=>exact T.ok (.inl rfl)|true=>
   have all2:∀x∈l.take (i+1),may x=true:=fun x hx=>by
    rw[htk]at hx;rcases bD.1 hx with hx|hx
    ·exact h2 x hx
    ·rw[aT.1 hx];exact hm
   rw[bM,zF,zfA (by omega)];cases i with
   |zero=>rw[zaY (by omega)];refine T.ok ⟨⟨1,rfl,hlt,?_,all2⟩,by simp only;omega⟩;rw[htk];exact bZ _ _|succ i=>
    have hp:i<l.length:=by omega
    rw[zaX (by omega),show w64 (((i+1:Nat):Int)-1)=(i:Int) by rw[zuG (by omega) (by omega)];omega,zbD rfl hp,zaA];cases hq:(Op.bytesLess l[i+1] l[i]||l[i+1]==l[i]) with
    |true=>exact T.ok (.inl rfl)|false=>
     refine T.ok ⟨⟨i+1+1,rfl,hlt,?_,all2⟩,by simp only;omega⟩;rw[htk];refine dH.2 ⟨h1,bZ _ _,fun a ha b hb2=>?_⟩;rw[aT.1 hb2];have hq1:=(or_f hq).1;have hq2:l[i+1]≠l[i]:=by have:=(or_f hq).2;simpa using this
     have hk:kltS l[i] l[i+1]=true:=kS.tri (show kltS l[i+1] l[i]=false from hq1) hq2;obtain⟨j,hj,rfl⟩:=dY.1 ha;have hj2:j<i+1:=by rw[bA]at hj;omega
     rw[dT];rcases cY j i with h|h
     ·have hji:=bW.1 h1 j i (by rw[bA];omega) (by rw[bA];omega) h;rw[dT,dT]at hji;exact kS.tr hji hk
     ·obtain rfl:j=i:=by omega
      exact hk
 ·have hi2:i=l.length:=by omega
  subst hi2;rw[he];rw[dN]at h1 h2;exact T.ok (.inr ⟨rfl,h1,h2⟩)
theorem rises3_t{l:List L8}{s:PS}(hl:l.length<=1048576):T (zgH zaB l (l.length:Int) s.1 s.2.1 s.2.2.1 s.2.2.2.1 s.2.2.2.2) fun r=>r=(false,s)∨(r=(true,s)/\RiL l/\∀x∈l,hasK 0 s x=true):=by
 unfold zgH
 refine(show T (iter (fun x:Int×PS=>zgR zaB l x.1 x.2.1 x.2.2.1 x.2.2.2.1 x.2.2.2.2.1 x.2.2.2.2.2) ((0:Int),s)) _ from ynS (may:=hasK 0 s) hl (fun k hk=>by
  unfold zgR zeO;simp only
  rw[zaX (by omega),zbD rfl hk,zaA,zaA];rfl) (by unfold zgR;simp only;rw[zaY (by omega)])).bind fun r hr=>?_
 rcases hr with rfl|⟨rfl,h1,h2⟩
 ·exact T.ok (.inl rfl)
 ·exact T.ok (.inr ⟨by rw[zA (by omega)],h1,h2⟩)
theorem rises4_t{l:List L8}{s:PS}(hl:l.length<=1048576):T (zgL zaB l (l.length:Int) s.1 s.2.1 s.2.2.1 s.2.2.2.1 s.2.2.2.2) fun r=>r=(false,s)∨(r=(true,s)/\RiL l/\∀x∈l,hasK 1 s x=true):=by
 unfold zgL
 refine(show T (iter (fun x:Int×PS=>zgU zaB l x.1 x.2.1 x.2.2.1 x.2.2.2.1 x.2.2.2.2.1 x.2.2.2.2.2) ((0:Int),s)) _ from ynS (may:=hasK 1 s) hl (fun k hk=>by
  unfold zgU zeS;simp only
  rw[zaX (by omega),zbD rfl hk,zaA,zaA];rfl) (by unfold zgU;simp only;rw[zaY (by omega)])).bind fun r hr=>?_
 rcases hr with rfl|⟨rfl,h1,h2⟩
 ·exact T.ok (.inl rfl)
 ·exact T.ok (.inr ⟨by rw[zA (by omega)],h1,h2⟩)
theorem rises5_t{l:List L8}{s:PS}(hl:l.length<=1048576):T (zgB zaB l (l.length:Int) s.1 s.2.1 s.2.2.1 s.2.2.2.1 s.2.2.2.2) fun r=>r=(false,s)∨(r=(true,s)/\RiL l/\∀x∈l,hasK 2 s x=true):=by
 unfold zgB
 refine(show T (iter (fun x:Int×PS=>zgV zaB l x.1 x.2.1 x.2.2.1 x.2.2.2.1 x.2.2.2.2.1 x.2.2.2.2.2) ((0:Int),s)) _ from ynS (may:=hasK 2 s) hl (fun k hk=>by
  unfold zgV zeV;simp only
  rw[zaX (by omega),zbD rfl hk,zaA,zaA];rfl) (by unfold zgV;simp only;rw[zaY (by omega)])).bind fun r hr=>?_
 rcases hr with rfl|⟨rfl,h1,h2⟩
 ·exact T.ok (.inl rfl)
 ·exact T.ok (.inr ⟨by rw[zA (by omega)],h1,h2⟩)
def Fine(s:PS)(g:Gr):Prop:=∀i,i<3->RiL (lst i g)/\∀x∈lst i g,hasK i s x=true
theorem lists_t{s:PS}{g:Gr}(hlen:∀i,i<3->(lst i g).length<=1048576)(left:List L8):
  T (iter (fun x:Int×WB=>zbG zaB x.1 x.2.1 x.2.2.1 x.2.2.2.1 x.2.2.2.2.1 x.2.2.2.2.2.1 x.2.2.2.2.2.2.1 x.2.2.2.2.2.2.2.1 x.2.2.2.2.2.2.2.2.1 x.2.2.2.2.2.2.2.2.2.1 x.2.2.2.2.2.2.2.2.2.2) ((0:Int),s.1,s.2.1,s.2.2.1,s.2.2.2.1,s.2.2.2.2,g.1.1,g.1.2.1,g.1.2.2,g.2,left)) fun r=>(r = .inl (false,s)/\¬Fine s g)∨(r = .inr (s.1,s.2.1,s.2.2.1,s.2.2.2.1,s.2.2.2.2,left)/\Fine s g):=by
 by_cases hf:Fine s g
 ·exact⟨_,ynC hf hlen left,.inr ⟨rfl,hf⟩⟩
 ·refine T.iter (fun x:Int×WB=>∃i:Nat,x=((i:Int),s.1,s.2.1,s.2.2.1,s.2.2.2.1,s.2.2.2.2,g.1.1,g.1.2.1,g.1.2.2,g.2,left)/\i<=3/\∀j,j<i->RiL (lst j g)/\∀x∈lst j g,hasK j s x=true) (fun x=>(3-x.1).toNat) _ (fun x hx=>?_) ⟨0,rfl,aZ _,fun j hj=>by omega⟩ (by simp only;omega);obtain⟨i,rfl,hi,hd⟩:=hx
  match i,hi with
  |0,_=>
   unfold zbG zcX;simp only;rw[zaX (by decide),zaX (by decide),zaA];simp only;refine(show T (zgH zaB g.1.1 (g.1.1.length:Int) s.1 s.2.1 s.2.2.1 s.2.2.2.1 s.2.2.2.2) _ from rises3_t (hlen 0 (by decide))).bind fun r hr=>?_;rcases hr with rfl|⟨rfl,h1,h2⟩
   ·exact T.ok (.inl ⟨rfl,hf⟩)
   ·refine T.ok ⟨⟨1,rfl,by decide,fun j hj=>?_⟩,by show((3:Int)-1).toNat<((3:Int)-0).toNat;decide⟩;obtain rfl:j=0:=by omega
    exact⟨h1,h2⟩
  |1,_=>
   unfold zbG zcX;simp only;rw[zaX (by decide),zaY (by decide),zaX (by decide),zaA];simp only;refine(show T (zgL zaB g.1.2.1 (g.1.2.1.length:Int) s.1 s.2.1 s.2.2.1 s.2.2.2.1 s.2.2.2.2) _ from rises4_t (hlen 1 (by decide))).bind fun r hr=>?_;rcases hr with rfl|⟨rfl,h1,h2⟩
   ·exact T.ok (.inl ⟨rfl,hf⟩)
   ·refine T.ok ⟨⟨2,rfl,by decide,fun j hj=>?_⟩,by show((3:Int)-2).toNat<((3:Int)-1).toNat;decide⟩;rcases cY j 1 with h|h
    ·exact hd j h
    ·obtain rfl:j=1:=by omega
     exact⟨h1,h2⟩
  |2,_=>
   unfold zbG zcX;simp only;rw[zaX (by decide),zaY (by decide),zaY (by decide),zaX (by decide),zaA];simp only;refine(show T (zgB zaB g.1.2.2 (g.1.2.2.length:Int) s.1 s.2.1 s.2.2.1 s.2.2.2.1 s.2.2.2.2) _ from rises5_t (hlen 2 (by decide))).bind fun r hr=>?_;rcases hr with rfl|⟨rfl,h1,h2⟩
   ·exact T.ok (.inl ⟨rfl,hf⟩)
   ·refine T.ok ⟨⟨3,rfl,by decide,fun j hj=>?_⟩,by show((3:Int)-3).toNat<((3:Int)-2).toNat;decide⟩;rcases cY j 2 with h|h
    ·exact hd j h
    ·obtain rfl:j=2:=by omega
     exact⟨h1,h2⟩
  |3,_=>exact absurd (fun j hj=>hd j hj) hf
theorem whole3_t{s:PS}(h:PPre s):T (rngA (fun x:T6 (List L8)=>zbU zaB x.1 x.2.1 x.2.2.1 x.2.2.2.1 x.2.2.2.2.1 x.2.2.2.2.2) (s.1,s.2.1,s.2.2.1,s.2.2.2.1,s.2.2.2.2,cU Prod.fst s.2.1)) fun r=>(r = .inl s/\∀k g,(k,g)∈s.2.1->Fine s g)∨(r = .inr (false,s)/\¬ ∀k g,(k,g)∈s.2.1->Fine s g):=by
 by_cases hall:∀k g,(k,g)∈s.2.1->Fine s g
 ·refine⟨_,ybF (fun x=>znD _ _ _) (fun x=>x=(s.1,s.2.1,s.2.2.1,s.2.2.2.1,s.2.2.2.2,x.2.2.2.2.2)) (fun x=>x.2.2.2.2.2.length) (r:=.inl s) (fun x hx o ho=>?_) rfl,.inl ⟨rfl,hall⟩⟩;obtain⟨left,rfl⟩:∃left,x=(s.1,s.2.1,s.2.2.1,s.2.2.2.1,s.2.2.2.2,left):=⟨_,hx⟩;have ho:o∈zbU zaB s.1 s.2.1 s.2.2.1 s.2.2.2.1 s.2.2.2.2 left:=ho;unfold zbU at ho;rcases yjW ho with⟨_,rfl⟩|⟨p,hp,rfl⟩
  ·exact .inr rfl
  ·obtain⟨hp1,hp2⟩:=kS.rngC_mem.1 hp;left;rw[kS.get_mem h.gR (k:=p.1) (v:=p.2) hp1,zaA];unfold zcM;simp only[zaA];rw[ynC (hall p.1 p.2 hp1) (h.sz p.1 p.2 hp1),zaA];exact⟨_,rfl,rfl,kS.rngD_len hp2⟩
 ·refine⟨_,ybF (fun x=>znD _ _ _) (fun x=>x=(s.1,s.2.1,s.2.2.1,s.2.2.2.1,s.2.2.2.2,x.2.2.2.2.2)/\∃k g,(k,g)∈s.2.1/\¬Fine s g/\k∈x.2.2.2.2.2) (fun x=>x.2.2.2.2.2.length) (r:=.inr (false,s)) (fun x hx o ho=>?_) ?_,.inr ⟨rfl,hall⟩⟩
  ·obtain⟨hx,kb,gb,hb1,hb2,hb3⟩:=hx;obtain⟨left,rfl⟩:∃left,x=(s.1,s.2.1,s.2.2.1,s.2.2.2.1,s.2.2.2.2,left):=⟨_,hx⟩;have ho:o∈zbU zaB s.1 s.2.1 s.2.2.1 s.2.2.2.1 s.2.2.2.2 left:=ho;unfold zbU at ho;rcases yjW ho with⟨he,rfl⟩|⟨p,hp,rfl⟩
   ·have:=kS.rngC_mem.2 ⟨hb1,hb3⟩;rw[he]at this;cases this
   ·obtain⟨hp1,hp2⟩:=kS.rngC_mem.1 hp;rw[kS.get_mem h.gR (k:=p.1) (v:=p.2) hp1,zaA];unfold zcM;simp only[zaA];obtain⟨r,hr,hr2⟩:=lists_t (s:=s) (g:=p.2) (h.sz p.1 p.2 hp1) (rngD keqS left p.1);rw[hr,zaA];rcases hr2 with⟨rfl,_⟩|⟨rfl,hf⟩
    ·exact .inr rfl
    ·refine .inl ⟨_,rfl,⟨rfl,kb,gb,hb1,hb2,kS.rngD_mem.2 ⟨hb3,fun e=>?_⟩⟩,kS.rngD_len hp2⟩;subst e;have:=kS.get_mem h.gR hb1;rw[kS.get_mem h.gR (k:=p.1) (v:=p.2) hp1]at this;cases this;exact hb2 hf
  ·refine⟨rfl,?_⟩;obtain⟨k,hk⟩:=Classical.not_forall.1 hall;obtain⟨g,hg⟩:=Classical.not_forall.1 hk;obtain⟨hm,hf⟩:=Classical.not_imp.1 hg;exact⟨k,g,hm,hf,aR.2 ⟨_,hm,rfl⟩⟩
theorem whole4_t{s:PS}(h:PPre s):T (rngA (fun x:T6 (List (L8×L8))=>zbW zaB x.1 x.2.1 x.2.2.1 x.2.2.2.1 x.2.2.2.2.1 x.2.2.2.2.2) (s.1,s.2.1,s.2.2.1,s.2.2.2.1,s.2.2.2.2,cU Prod.fst s.2.2.2.2)) fun r=>(r = .inl s/\∀p,p∈s.2.2.2.2->thB s p.1.1=true/\thB s p.1.2=true)∨(r = .inr (false,s)/\¬ ∀p,p∈s.2.2.2.2->thB s p.1.1=true/\thB s p.1.2=true):=by
 have step:∀(p:(L8×L8)×Unit),p∈s.2.2.2.2->∀left:List (L8×L8),(aQ (mget (keq (.pr .s .s)) s.2.2.2.2 p.1) fun _v49=>aQ (zcL zaB p.1.1 s.1 s.2.1 s.2.2.1 s.2.2.2.1 s.2.2.2.2) fun v50=>bif(!v50.1)then some (.inr (.inr (false,v50.2)))else(aQ (zcL zaB p.1.2 v50.2.1 v50.2.2.1 v50.2.2.2.1 v50.2.2.2.2.1 v50.2.2.2.2.2) fun v51=>(bif(!v51.1)then some (.inr (.inr (false,v51.2)))else some (.inl (v51.2.1,v51.2.2.1,v51.2.2.2.1,v51.2.2.2.2.1,v51.2.2.2.2.2,rngD (keq (.pr .s .s)) left p.1)):Option (T6 (List (L8×L8))⊕(PS⊕(Bool×PS))))))=bif thB s p.1.1&&thB s p.1.2 then some (.inl (s.1,s.2.1,s.2.2.1,s.2.2.2.1,s.2.2.2.2,rngD keqM left p.1))else some (.inr (.inr (false,s))):=fun p hp left=>by
  obtain⟨m1,m2⟩:=h.ma p hp;rw[show mget (keq (.pr .s .s)) s.2.2.2.2 p.1=some p.2 from kSS.get_mem h.mR (k:=p.1) (v:=p.2) hp,zaA,ygA m1,zaA];simp only;cases thB s p.1.1 with
  |false=>rfl|true=>
   rw[bM,zF,ygA m2,zaA];simp only;cases thB s p.1.2 with
   |false=>rfl|true=>rfl
 by_cases hall:∀p,p∈s.2.2.2.2->thB s p.1.1=true/\thB s p.1.2=true
 ·refine⟨_,ybF (fun x=>znD _ _ _) (fun x=>x=(s.1,s.2.1,s.2.2.1,s.2.2.2.1,s.2.2.2.2,x.2.2.2.2.2)) (fun x=>x.2.2.2.2.2.length) (r:=.inl s) (fun x hx o ho=>?_) rfl,.inl ⟨rfl,hall⟩⟩;obtain⟨left,rfl⟩:∃left,x=(s.1,s.2.1,s.2.2.1,s.2.2.2.1,s.2.2.2.2,left):=⟨_,hx⟩;have ho:o∈zbW zaB s.1 s.2.1 s.2.2.1 s.2.2.2.1 s.2.2.2.2 left:=ho;unfold zbW at ho;rcases yjW ho with⟨_,rfl⟩|⟨p,hp,rfl⟩
  ·exact .inr rfl
  ·obtain⟨hp1,hp2⟩:=kSS.rngC_mem.1 hp;left;have st:=step p hp1 left;rw[(hall p hp1).1,(hall p hp1).2]at st;exact⟨_,st,rfl,kSS.rngD_len hp2⟩
 ·refine⟨_,ybF (fun x=>znD _ _ _) (fun x=>x=(s.1,s.2.1,s.2.2.1,s.2.2.2.1,s.2.2.2.2,x.2.2.2.2.2)/\∃p,p∈s.2.2.2.2/\¬(thB s p.1.1=true/\thB s p.1.2=true)/\p.1∈x.2.2.2.2.2) (fun x=>x.2.2.2.2.2.length) (r:=.inr (false,s)) (fun x hx o ho=>?_) ?_,.inr ⟨rfl,hall⟩⟩
  ·obtain⟨hx,pb,hb1,hb2,hb3⟩:=hx;obtain⟨left,rfl⟩:∃left,x=(s.1,s.2.1,s.2.2.1,s.2.2.2.1,s.2.2.2.2,left):=⟨_,hx⟩;have ho:o∈zbW zaB s.1 s.2.1 s.2.2.1 s.2.2.2.1 s.2.2.2.2 left:=ho;unfold zbW at ho;rcases yjW ho with⟨he,rfl⟩|⟨p,hp,rfl⟩
   ·have:=kSS.rngC_mem.2 ⟨hb1,hb3⟩;rw[show rngC keqM s.2.2.2.2 left=[]from he]at this;cases this
   ·obtain⟨hp1,hp2⟩:=kSS.rngC_mem.1 hp;have st:=step p hp1 left;cases hc:thB s p.1.1&&thB s p.1.2 with
    |false=>rw[hc]at st;exact .inr st|true=>rw[hc]at st;refine .inl ⟨_,st,⟨rfl,pb,hb1,hb2,kSS.rngD_mem.2 ⟨hb3,fun e=>?_⟩⟩,kSS.rngD_len hp2⟩;rw[e]at hb2;exact hb2 ⟨zbH hc,zbR hc⟩
  ·refine⟨rfl,?_⟩;obtain⟨p,hp⟩:=Classical.not_forall.1 hall;obtain⟨hm,hf⟩:=Classical.not_imp.1 hp;exact⟨p,hm,hf,aR.2 ⟨_,hm,rfl⟩⟩
inductive Pl (G:GM):L8->Prop where
 |mk {k:L8}:(∀g,(k,g)∈G->∀x∈lst 1 g,mhas keqS G x=true->Pl G x)->Pl G k
theorem pl_nocyc{G:GM}{k:L8}(h:Pl G k):∀g,(k,g)∈G->∀x∈lst 1 g,¬Reach G x k:=by
 induction h with
 |mk hh ih=>
  rename_i k;intro g hg x hx hr
  -- x is a group, or is k itself
  have first:∀{a b:L8},Reach G a b->a=b∨∃ga,(a,ga)∈G/\∃y∈lst 1 ga,Reach G y b:=by
   intro a b hab;induction hab with
   |refl=>exact .inl rfl|step hab hb hy ih2=>
    rcases ih2 with rfl|⟨ga,h1,y,h2,h3⟩
    ·exact .inr ⟨_,hb,_,hy,.refl⟩
    ·exact .inr ⟨ga,h1,y,h2,h3.step hb hy⟩
  rcases first hr with rfl|⟨ga,h1,y,h2,h3⟩
  ·exact ih g hg x hx (kS.has_iff.2 ⟨g,hg⟩) g hg x hx .refl
  ·exact ih g hg x hx (kS.has_iff.2 ⟨ga,h1⟩) ga h1 y h2 (h3.step hg hx)
open Classical in
noncomputable def ypQ(G:GM):LM:=(zyT G).filter fun p=>decide (¬Pl G p.1)
open Classical in
theorem root_any{s:PS}(h:PPre s):rngA (zjO zaB) (Sum.inl (true,s.1,s.2.1,s.2.2.1,s.2.2.2.1,s.2.2.2.2,zyT s.2.1))=some (s.1,s.2.1,s.2.2.1,s.2.2.2.1,s.2.2.2.2,ypQ s.2.1):=by
 let ok:LM->Prop:=fun t=>t.Sublist (zyT s.2.1)/\∀k l,(k,l)∈zyT s.2.1->(k,l)∉t->Pl s.2.1 k;have hN:(zyT s.2.1).length=s.2.1.length:=by unfold zyT mmap;rw[aE]
 have okl:∀t,ok t->t.length<=s.2.1.length:=fun t ht=>by rw[<-hN];exact ht.1.length_le
 have okR:∀t,ok t->Ri kltS t:=fun t ht=>List.Pairwise.sublist ht.1 (ymH h.gR);let done:LM->L8->List L8->Prop:=fun t k l=>∃x∈l,mhas keqS t x=true
 have fin:∀t,ok t->(∀k l,(k,l)∈t->done t k l)->t=ypQ s.2.1:=fun t ht hd=>by
  have no:∀k,Pl s.2.1 k->∀l,(k,l)∉t:=fun k hk=>by
   induction hk with
   |mk _ ih=>intro l hl;obtain⟨g,hg,rfl⟩:=zoS.1 (ht.1.subset hl);obtain⟨x,hx,hxt⟩:=hd _ _ hl;obtain⟨v,hv⟩:=kS.has_iff.1 hxt;obtain⟨gx,hgx,_⟩:=zoS.1 (ht.1.subset hv);exact ih g hg x hx (kS.has_iff.2 ⟨gx,hgx⟩) v hv
  refine kS.ext (okR t ht) (List.Pairwise.sublist List.filter_sublist (ymH h.gR)) fun p=>?_;unfold ypQ;rw[cH];constructor
  ·intro hp;exact⟨ht.1.subset hp,zA fun hpl=>no p.1 hpl p.2 hp⟩
  ·rintro⟨h1,h2⟩;refine Classical.byContradiction fun hn=>?_;exact zC h2 (ht.2 p.1 p.2 h1 hn)
 refine ybF (S:=R7⊕R8) (fun x=>by
  cases x with
  |inl x=>exact List.cons_ne_nil _ _|inr x=>exact znD _ _ _) (fun x=>match x with
   |.inl y=>∃t,y=(y.1,s.1,s.2.1,s.2.2.1,s.2.2.2.1,s.2.2.2.2,t)/\ok t/\(y.1=false->t=ypQ s.2.1)|.inr y=>∃left t,y=(y.1,s.1,s.2.1,s.2.2.1,s.2.2.2.1,s.2.2.2.2,left,t)/\ok t/\left.length<=s.2.1.length/\(y.1=false->∀k l,(k,l)∈t->k∉left->done t k l))
  (fun x=>match x with
   |.inl y=>y.2.2.2.2.2.2.length*(2*s.2.1.length+6)+bif y.1 then s.2.1.length+2 else 0
   |.inr y=>y.2.2.2.2.2.2.2.length*(2*s.2.1.length+6)+y.2.2.2.2.2.2.1.length+1+bif y.1 then s.2.1.length+2 else 0) (fun x hx o ho=>?_) ⟨_,rfl,⟨List.Sublist.refl _,fun k l h1 h2=>absurd h1 h2⟩,fun h=>by cases h⟩
 cases x with
 |inl y=>
  obtain⟨t,hy,ht,hd⟩:=hx;obtain⟨more,y2⟩:=y;have hy2:y2=(s.1,s.2.1,s.2.2.1,s.2.2.2.1,s.2.2.2.2,t):=congrArg Prod.snd hy;subst hy2;have ho:o=zeU zaB more s.1 s.2.1 s.2.2.1 s.2.2.2.1 s.2.2.2.2 t:=aT.1 ho;unfold zeU at ho;cases more with
  |true=>refine .inl ⟨_,ho,⟨cU Prod.fst t,t,rfl,ht,by rw[aE];exact okl t ht,fun _ k l hk hn=>absurd (aR.2 ⟨_,hk,rfl⟩) hn⟩,?_⟩;show t.length*(2*s.2.1.length+6)+(cU Prod.fst t).length+1+0<t.length*(2*s.2.1.length+6)+(s.2.1.length+2);have:=okl t ht;rw[aE];omega
  |false=>right;rw[<-hd rfl];exact ho
 |inr y=>
  obtain⟨left,t,hy,ht,hll,hd⟩:=hx;obtain⟨more,y2⟩:=y;have hy2:y2=(s.1,s.2.1,s.2.2.1,s.2.2.2.1,s.2.2.2.2,left,t):=congrArg Prod.snd hy;subst hy2;have ho:o∈zeM zaB more s.1 s.2.1 s.2.2.1 s.2.2.2.1 s.2.2.2.2 left t:=ho;unfold zeM at ho;rcases yjW ho with⟨he,rfl⟩|⟨p,hp,rfl⟩
  ·refine .inl ⟨_,rfl,⟨t,rfl,ht,fun hm=>fin t ht fun k l hk=>hd hm k l hk fun hn=>?_⟩,?_⟩
   ·have:=kS.rngC_mem.2 ⟨hk,hn⟩;rw[he]at this;cases this
   ·show t.length*(2*s.2.1.length+6)+(bif more then s.2.1.length+2 else 0)<t.length*(2*s.2.1.length+6)+left.length+1+(bif more then s.2.1.length+2 else 0);omega
  ·obtain⟨hp1,hp2⟩:=kS.rngC_mem.1 hp;obtain⟨g,hg,hpl⟩:=zoS.1 (ht.1.subset (show(p.1,p.2)∈t from hp1));have hlen:p.2.length<=1048576:=by rw[hpl];exact h.sz p.1 g hg 1 (by decide)
   have hd1:=kS.rngD_len hp2;rw[kS.get_mem (okR t ht) (k:=p.1) (v:=p.2) hp1,zaA,ytV _ _ (by omega),zaA];left;cases h2:p.2.any fun x=>mhas keqS t x with
   |true=>
    obtain⟨x,hx,hxt⟩:=List.any_eq_true.1 h2;refine⟨_,rfl,⟨_,t,rfl,ht,by omega,fun hm k l hk hn=>?_⟩,?_⟩
    ·by_cases e:k=p.1
     ·subst e;have:=kS.get_mem (okR t ht) hk;rw[kS.get_mem (okR t ht) (k:=p.1) (v:=p.2) hp1]at this;cases this;exact⟨x,hx,hxt⟩
     ·exact hd hm k l hk fun hn2=>hn (kS.rngD_mem.2 ⟨hn2,e⟩)
    ·simp only;omega
   |false=>
    have hsub:=ysC (eq:=keqS) t p.1;have hlt:(mdel keqS t p.1).length<t.length:=by
     rcases cY (mdel keqS t p.1).length t.length with h1|h1
     ·exact h1
     ·have e:mdel keqS t p.1=t:=hsub.eq_of_length_le h1;have:=(kS.del_mem (okR t ht) (k:=p.1) (p:=p)).1 (by rw[e];exact hp1);exact absurd rfl this.2
    have hpl2:Pl s.2.1 p.1:=.mk fun g' hg' x hx hxG=>by
     have eg:=kS.get_mem h.gR hg';rw[kS.get_mem h.gR hg]at eg;cases eg;have hxt:mhas keqS t x=false:=by have:=List.any_eq_false.1 h2 x (by rw[hpl];exact hx);simpa using this
     obtain⟨gx,hgx⟩:=kS.has_iff.1 hxG;refine ht.2 x (lst 1 gx) (zoS.2 ⟨gx,hgx,rfl⟩) fun hm=>?_;rw[kS.has_iff.2 ⟨_,hm⟩]at hxt;cases hxt
    refine⟨_,rfl,⟨_,_,rfl,⟨hsub.trans ht.1,fun k l h1 h2=>?_⟩,by omega,fun hm=>by cases hm⟩,?_⟩
    ·by_cases e:k=p.1
     ·rw[e];exact hpl2
     ·exact ht.2 k l h1 fun hm=>h2 ((kS.del_mem (okR t ht)).2 ⟨hm,e⟩)
    simp only[zE];have h3:=okl t ht;obtain⟨d,hd⟩:∃d,t.length=(mdel keqS t p.1).length+1+d:=⟨t.length-(mdel keqS t p.1).length-1,by omega⟩;have h4:((mdel keqS t p.1).length+1)*(2*s.2.1.length+6)<=t.length*(2*s.2.1.length+6):=Nat.mul_le_mul_right _ (by omega);rw[Nat.succ_mul]at h4;have h5:0<=(bif more then s.2.1.length+2 else 0):=aZ _;omega
open Classical in
theorem rooted_t{s:PS}(h:PPre s):T (zbV zaB s.1 s.2.1 s.2.2.1 s.2.2.2.1 s.2.2.2.2) fun r=>r.2=s/\(r.1=true->NoCyc s.2.1):=by
 unfold zbV;rw[ywP h.gR,zaA,root_any h,zaA];refine T.ok ⟨rfl,fun e=>?_⟩;have e1:((ypQ s.2.1).length:Int)=0:=by simpa using e
 have e2:ypQ s.2.1=[]:=aS (by omega);intro k g hg;refine pl_nocyc ?_ g hg;refine Classical.byContradiction fun hn=>?_;have:(k,lst 1 g)∈ypQ s.2.1:=by unfold ypQ;exact cH.2 ⟨zoS.2 ⟨g,hg,rfl⟩,zA hn⟩
 rw[e2]at this;cases this
theorem whole_t{s:PS}(h:PPre s):(zoH s/\zbK zaB s.1 s.2.1 s.2.2.1 s.2.2.2.1 s.2.2.2.2=some (true,s))∨(¬zoH s/\∃t,zbK zaB s.1 s.2.1 s.2.2.1 s.2.2.2.1 s.2.2.2.2=some (false,t)):=by
 by_cases hw:zoH s
 ·exact .inl ⟨hw,whole_ok (h.inv hw)⟩
 ·right;refine⟨hw,?_⟩
  have key:T (zbK zaB s.1 s.2.1 s.2.2.1 s.2.2.2.1 s.2.2.2.2) fun r=>r.1=true->zoH s:=by
   unfold zbK zhT;by_cases l1:(s.1.length:Int)>64
   ·rw[zaX l1,zaA];exact T.ok fun e=>by cases e
   rw[zaY l1];by_cases l2:(s.2.1.length:Int)>32
   ·rw[zaX l2,zaA];exact T.ok fun e=>by cases e
   rw[zaY l2];by_cases l3:(s.2.2.1.length:Int)>32
   ·rw[zaX l3,zaA];exact T.ok fun e=>by cases e
   rw[zaY l3];by_cases l4:(s.2.2.2.1.length:Int)>32
   ·rw[zaX l4,zaA];exact T.ok fun e=>by cases e
   rw[zaY l4];by_cases l5:(s.2.2.2.2.length:Int)>64
   ·rw[zaX l5,zaA];exact T.ok fun e=>by cases e
   rw[zaY l5,zaA];simp only;refine(whole3_t h).bind fun r hr=>?_;rcases hr with⟨rfl,h3⟩|⟨rfl,_⟩
   ·simp only;refine(whole4_t h).bind fun r hr=>?_;rcases hr with⟨rfl,h4⟩|⟨rfl,_⟩
    ·simp only;refine(rooted_t h).bind fun r hr=>T.ok fun e=>⟨by omega,by omega,by omega,by omega,by omega,h3,h4,hr.2 e⟩
    ·exact T.ok fun e=>by cases e
   ·exact T.ok fun e=>by cases e
  obtain⟨⟨b,t⟩,h1,h2⟩:=key;cases b with
  |false=>exact⟨t,h1⟩|true=>exact absurd (h2 rfl) hw
theorem good_ne{rows:List (L8×L8)}{L:List Ent}(h:zmF rows L):L.Pairwise fun a b=>a.row.1≠b.row.1:=by have h3:=h.2.2;rw[h.2.1]at h3;exact(bI.1 h3).imp fun {a b} hab=>kS.lt_ne hab
theorem ydT{rows:List (L8×L8)}{L:List Ent}(h:zmF rows L){κ γ:Type}{f:Ent->Option (κ×γ)}(hf:∀a b p q,f a=some p->f b=some q->p.1=q.1->a.row.1=b.row.1):((L.filterMap f).map (·.1)).Nodup:=by
 have:(L.filterMap f).Pairwise fun p q=>p.1≠q.1:=by rw[List.pairwise_filterMap];exact(good_ne h).imp fun {a b} hab p hp q hq e=>hab (hf a b p q hp hq e)
 exact bI.2 this
theorem good_U{rows:List (L8×L8)}{L:List Ent}(h:zmF rows L):Ri kltS (bld L s0).1/\∀p,p∈(bld L s0).1↔p∈L.filterMap eU:=by
 rw[yiU]
 have:=kS.sets_mem (L.filterMap eU) [] .nil (ydT h fun a b p q ha hb e=>by
  cases a<;>cases b<;>first|(cases ha;done)|(cases hb;done)|(cases ha;cases hb;show [117,115,101,114,47]++_=[117,115,101,114,47]++_;rw[show _=_ from e])) (fun p _ q hq=>by cases hq)
 exact⟨this.1,fun p=>by rw[this.2 p];simp⟩
theorem yzA{rows:List (L8×L8)}{L:List Ent}(h:zmF rows L):Ri kltS (bld L s0).2.1/\∀p,p∈(bld L s0).2.1↔p∈L.filterMap eG:=by
 rw[yiU]
 have:=kS.sets_mem (L.filterMap eG) [] .nil (ydT h fun a b p q ha hb e=>by
  cases a<;>cases b<;>first|(cases ha;done)|(cases hb;done)|(cases ha;cases hb;show [103,114,111,117,112,47]++_=[103,114,111,117,112,47]++_;rw[show _=_ from e])) (fun p _ q hq=>by cases hq)
 exact⟨this.1,fun p=>by rw[this.2 p];simp⟩
theorem good_R{rows:List (L8×L8)}{L:List Ent}(h:zmF rows L):Ri kltS (bld L s0).2.2.1/\∀p,p∈(bld L s0).2.2.1↔p∈L.filterMap eR:=by
 rw[yiU]
 have:=kS.sets_mem (L.filterMap eR) [] .nil (ydT h fun a b p q ha hb e=>by
  cases a<;>cases b<;>first|(cases ha;done)|(cases hb;done)|(cases ha;cases hb;show [114,111,108,101,47]++_=[114,111,108,101,47]++_;rw[show _=_ from e])) (fun p _ q hq=>by cases hq)
 exact⟨this.1,fun p=>by rw[this.2 p];simp⟩
theorem good_C{rows:List (L8×L8)}{L:List Ent}(h:zmF rows L):Ri kltS (bld L s0).2.2.2.1/\∀p,p∈(bld L s0).2.2.2.1↔p∈L.filterMap eC:=by
 rw[yiU]
 have:=kS.sets_mem (L.filterMap eC) [] .nil (ydT h fun a b p q ha hb e=>by
  cases a<;>cases b<;>first|(cases ha;done)|(cases hb;done)|(cases ha;cases hb;show [99,108,105,101,110,116,47]++_=[99,108,105,101,110,116,47]++_;rw[show _=_ from e])) (fun p _ q hq=>by cases hq)
 exact⟨this.1,fun p=>by rw[this.2 p];simp⟩
theorem xcP{rows:List (L8×L8)}{L:List Ent}(h:zmF rows L):Ri kltM (bld L s0).2.2.2.2/\∀p,p∈(bld L s0).2.2.2.2↔p∈L.filterMap eM:=by
 rw[yiU]
 have:=kSS.sets_mem (L.filterMap eM) [] .nil (ydT h fun a b p q ha hb e=>by
  cases a<;>cases b<;>first|(cases ha;done)|(cases hb;done)|(cases ha;cases hb;exact congrArg (fun m=>(rowM m).1) e)) (fun p _ q hq=>by cases hq)
 exact⟨this.1,fun p=>by rw[this.2 p];simp⟩
theorem pre_of{rows:List (L8×L8)}{L:List Ent}(h:zmF rows L)(hl:rows.length<=1048576)(hz:∀x∈rows,x.2.length<=1048576):PPre (bld L s0):=by
 have u:=good_U h;have g:=yzA h;have r:=good_R h;have c:=good_C h;have m:=xcP h;have hL:L.length<=1048576:=by have:=congrArg dO h.2.1;rw[aE]at this;omega
 have hm:∀{κ γ:Type} {f:Ent->Option (κ×γ)} {p:κ×γ},p∈L.filterMap f->∃e∈L,f e=some p:=fun hp=>cN.1 hp;refine⟨u.1,g.1,r.1,c.1,m.1,fun k x hx=>?_,fun k x hx=>?_,fun k x hx=>?_,fun k x hx=>?_,fun p hp=>?_,fun k x hx i hi=>?_,?_⟩
 ·obtain⟨e,he,hf⟩:=hm ((u.2 _).1 hx);have ho:=h.1 e he;cases e<;>first|(cases hf;done)|skip
  cases hf;exact⟨rfl,ho⟩
 ·obtain⟨e,he,hf⟩:=hm ((g.2 _).1 hx);have ho:=h.1 e he;cases e<;>first|(cases hf;done)|skip
  cases hf;exact ho
 ·obtain⟨e,he,hf⟩:=hm ((r.2 _).1 hx);have ho:=h.1 e he;cases e<;>first|(cases hf;done)|skip
  cases hf;exact⟨rfl,ho⟩
 ·obtain⟨e,he,hf⟩:=hm ((c.2 _).1 hx);have ho:=h.1 e he;cases e<;>first|(cases hf;done)|skip
  cases hf;exact⟨rfl,ho⟩
 ·obtain⟨e,he,hf⟩:=hm ((m.2 _).1 hp);have ho:=h.1 e he;cases e<;>first|(cases hf;done)|skip
  cases hf;exact ho
 ·obtain⟨e,he,hf⟩:=hm ((g.2 _).1 hx);have hs:e.sm:=sm_of (hz _ (by rw[h.2.1];exact aR.2 ⟨e,he,rfl⟩));cases e<;>first|(cases hf;done)|skip
  cases hf
  match i,hi with
  |0,_=>exact hs.1.1|1,_=>exact hs.1.2.1|2,_=>exact hs.1.2.2
 ·have h1:(bld L s0).2.1.length<=(L.filterMap eG).length:=by
   have hn:((bld L s0).2.1.map (·.1)).Nodup:=(bI.2 (g.1.imp fun {p q} hpq=>kS.lt_ne hpq):((bld L s0).2.1.map (·.1)).Pairwise (· ≠ ·));have:=zjR hn (m:=(L.filterMap eG).map (·.1)) fun x hx=>by obtain⟨p,hp,rfl⟩:=aR.1 hx;exact aR.2 ⟨p,(g.2 p).1 hp,rfl⟩
   simpa using this
  exact bC h1 (bC (List.length_filterMap_le _ _) hL)
theorem ypA{rows:List (L8×L8)}{L:List Ent}(h:zmF rows L)(_hp:PPre (bld L s0)):∀e,e∈ents (bld L s0)↔e∈L:=by
 have u:=good_U h;have g:=yzA h;have r:=good_R h;have c:=good_C h;have m:=xcP h;intro e;unfold ents usE grE roE clE maE;simp only[bD,aR];constructor
 ·rintro(⟨x,⟨p,hp1,rfl⟩,rfl⟩|⟨x,⟨p,hp1,rfl⟩,rfl⟩|⟨x,⟨p,hp1,rfl⟩,rfl⟩|⟨x,⟨p,hp1,rfl⟩,rfl⟩|⟨x,⟨p,hp1,rfl⟩,rfl⟩)
  ·obtain⟨e,he,hf⟩:=cN.1 ((c.2 _).1 hp1);cases e<;>first|(cases hf;done)|skip
   cases hf;exact he
  ·obtain⟨e,he,hf⟩:=cN.1 ((g.2 _).1 hp1);cases e<;>first|(cases hf;done)|skip
   cases hf;exact he
  ·obtain⟨e,he,hf⟩:=cN.1 ((m.2 _).1 hp1);cases e<;>first|(cases hf;done)|skip
   cases hf;exact he
  ·obtain⟨e,he,hf⟩:=cN.1 ((r.2 _).1 hp1);cases e<;>first|(cases hf;done)|skip
   cases hf;exact he
  ·obtain⟨e,he,hf⟩:=cN.1 ((u.2 _).1 hp1);cases e<;>first|(cases hf;done)|skip
   cases hf;exact he
 ·intro he;cases e with
  |c x=>exact .inl ⟨x,⟨_,(c.2 (x.1,x)).2 (cN.2 ⟨_,he,rfl⟩),rfl⟩,rfl⟩|g x=>exact .inr (.inl ⟨x,⟨_,(g.2 (x.1,((x.2.1,x.2.2.1,x.2.2.2.1),x.2.2.2.2))).2 (cN.2 ⟨_,he,rfl⟩),rfl⟩,rfl⟩)|m x=>exact .inr (.inr (.inl ⟨x,⟨_,(m.2 (x,())).2 (cN.2 ⟨_,he,rfl⟩),rfl⟩,rfl⟩))|r x=>exact .inr (.inr (.inr (.inl ⟨x,⟨_,(r.2 (x.1,x)).2 (cN.2 ⟨_,he,rfl⟩),rfl⟩,rfl⟩)))|u x=>exact .inr (.inr (.inr (.inr ⟨x,⟨_,(u.2 (x.1,x)).2 (cN.2 ⟨_,he,rfl⟩),rfl⟩,rfl⟩)))
theorem xcD{rows:List (L8×L8)}{L:List Ent}(h:zmF rows L)(hp:PPre (bld L s0))(hw:zoH (bld L s0)):rowsE (bld L s0)=rows:=by
 have hi:=hp.inv hw;have hnd:=rows_nodup hi;have n1:(ybL (bld L s0)).Nodup:=by have h2:(ybL (bld L s0)).Pairwise fun x y=>x.1≠y.1:=bI.1 hnd;exact h2.imp fun {a b} hab e=>hab (by rw[e])
 have n2:rows.Nodup:=h.2.2.imp fun {a b} hab (e:a=b)=>kS.lt_ne hab (by rw[e]);have hperm:(ybL (bld L s0)).Perm rows:=by rw[List.perm_ext_iff_of_nodup n1 n2];intro x;rw[<-ents_row,h.2.1,aR,aR];exact⟨fun⟨e,he,hx⟩=>⟨e,(ypA h hp e).1 he,hx⟩,fun⟨e,he,hx⟩=>⟨e,(ypA h hp e).2 he,hx⟩⟩
 refine ztM (R:=fun x y:L8×L8=>leS x.1 y.1=true) (fun a ha b hb h1 h2=>?_) ((zeY _ _).trans hperm) (ziF (fun a b=>ycK a.1 b.1) (fun a b c=>ydG a.1 b.1 c.1) _) (h.2.2.imp fun {a b} hab=>?_)
 ·have e:a.1=b.1:=List.le_antisymm (zzP.1 h1) (zzP.1 h2);have ha':a∈ybL (bld L s0):=(zeY _ _).mem_iff.1 ha;have hb':b∈ybL (bld L s0):=(zeY _ _).mem_iff.1 hb;exact ytR.nodup_fst hnd ha' hb' e
 ·show(!(Op.bytesLess b.1 a.1))=true;cases hy:Op.bytesLess b.1 a.1 with
  |false=>rfl|true=>have:=kS.tr hab (show kltS b.1 a.1=true from hy);rw[kS.irr]at this;cases this
theorem ydQ{rows:List (L8×L8)}{L:List Ent}(h:zmF rows L)(hl:rows.length<=1048576)(hz:∀x∈rows,x.2.length<=1048576):
  iter (fun x:Int×PS=>zfS zaB rows x.1 x.2.1 x.2.2.1 x.2.2.2.1 x.2.2.2.2.1 x.2.2.2.2.2) ((0:Int),s0)=some (.inr (bld L s0)):=by
 obtain⟨h1,h2,h3⟩:=h;rw[h2]at h3 ⊢;have hL:L.length<=1048576:=by have:=congrArg dO h2;rw[aE]at this;omega
 exact load_it (fun e he=>⟨h1 e he,sm_of (hz _ (by rw[h2];exact aR.2 ⟨e,he,rfl⟩))⟩) hL h3
theorem load_any{rows:List (L8×L8)}(hl:rows.length<=1048576)(hz:∀x∈rows,x.1.length<=1048576/\x.2.length<=1048576):(∃L,zmF rows L/\PPre (bld L s0)/\zoH (bld L s0)/\zeR zaB rows=some (.inr (0,bld L s0)))∨((¬∃L,zmF rows L/\zoH (bld L s0))/\zeR zaB rows=some (.inl 125)):=by
 have hz2:∀x∈rows,x.2.length<=1048576:=fun x hx=>(hz x hx).2;by_cases hg:∃L,zmF rows L
 ·obtain⟨L,hL⟩:=hg;have hp:=pre_of hL hl hz2;have hit:=ydQ hL hl hz2;rcases whole_t hp with⟨hw,e⟩|⟨hw,t,e⟩
  ·refine .inl ⟨L,hL,hp,hw,?_⟩;unfold zeR;rw[xdG,zaA,hit,zaA];simp only;rw[e,zaA];rfl
  ·refine .inr ⟨fun⟨L',hL',hw'⟩=>hw ?_,?_⟩
   ·have e2:=ydQ hL' hl hz2;rw[hit]at e2;have e3:bld L s0=bld L' s0:=by injection e2 with e2;injection e2
    rw[e3];exact hw'
   ·unfold zeR;rw[xdG,zaA,hit,zaA];simp only;rw[e,zaA];rfl
 ·refine .inr ⟨fun⟨L',hL',_⟩=>hg ⟨L',hL'⟩,?_⟩;obtain⟨r,h1,h2⟩:=load_t hl hz;rcases h2 with⟨L,hL,_⟩|⟨_,rfl⟩
  ·exact absurd ⟨L,hL⟩ hg
  ·unfold zeR;rw[xdG,zaA,h1,zaA]
end Go.Proofs.YtopanhneegpgcaaGreatDoor.Am
