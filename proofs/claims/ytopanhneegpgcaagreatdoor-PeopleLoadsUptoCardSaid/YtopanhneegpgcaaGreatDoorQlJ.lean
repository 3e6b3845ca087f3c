/- Parts of one proof. Conditions: as each theorem says. -/
import Derived.Shelf.Lays2
import Derived.Ground.Names2Prog
import Derived.Test.YtopanhneegpgcaaGreatDoorProg
import Derived.Shelf.SlSortCmp.WholeK
import Derived.Lib.Bytealg
import Derived.Shelf.SlSortCmp.NoneTotal
import Derived.Ground.SlsfProg
import Derived.Shelf.SlIter.Nil
import Derived.Shelf.SortM.Plain
import Derived.Shelf.SortM.SortNone
import Derived.Ground.GgzProg
import Derived.Ground.SlgmProg
import Derived.Shelf.Spec.SlicesGrow
import Derived.Ground.Names8Prog
import Derived.RangeFuncNested
import Derived.RangeFuncBound
import Derived.RangeFuncCalls
import Derived.RangeFuncLeaves
import Derived.RangeFuncFrom
import Derived.Shelf.Abstract
import Derived.Shelf.RegionOpen
import Derived.WalkKit
import Derived.OwnWalkIn
import Derived.TacticsInMore
import Derived.LoopNIn
import Derived.LoopIn
import Derived.Maps.RangeRun
import Derived.Shelf.SlicesE.DeleteFunc
import Derived.Ground.SlgfProg
import Derived.Lib.SliceRun
import Derived.Test.YtopanhneegpgcaaGreatDoorQlI
open Array renaming getElem?_eq_some_iff->aP,getElem?_setIfInBounds_ne->eF,getElem_toList->iZ,replicate_succ->gT,replicate_zero->gU
open Bool renaming and_eq_true->aF,not_eq_true'->bU,or_true->iP
open List renaming append_toArray->iC,cons_append->bG,eq_nil_of_length_eq_zero->aS,getElem?_cons_zero->gH,le_antisymm->fJ,le_trans->iI,length->dO,length_append->aC,length_cons->aN,length_map->aE,length_nil->cC,lt_irrefl->eJ,lt_trans->fF,map_append->cT,map_cons->bF,map_id->fS,map_map->dF,mem_cons->aK,mem_cons_of_mem->aL,mem_cons_self->aM,mem_map->aR,mem_singleton->aT,nil_append->bL,nodup_cons->eB,not_lt->fV,pairwise_cons->aW,pairwise_iff_getElem->bW,push_toArray->iJ,size_toArray->dS
open Nat renaming beq->aG,le_refl->aI,reduceAdd->jB,reduceSub->jC,zero_le->aZ
open Go.Proofs.Tryz renaming prog->aA
namespace Go.Proofs
open Go.Shelf
def Tryz.insS_ren:Go.Shelf.Ren:=⟨fun|22=>261|29=>302|30=>303|36=>329|17=>340|n=>n,fun|24=>22|9=>9|3=>3|4=>4|0=>0|n=>n,fun|n=>n⟩
theorem Tryz.insS:Go.Proofs.Lays2.n22 aA Tryz.insS_ren:={mixed:=by kernel_rfl,f17:=kqz Tryz.func340 (by kernel_rfl),f22:=kqz Tryz.func261 (by kernel_rfl),f29:=kqz Tryz.func302 (by kernel_rfl),f30:=kqz Tryz.func303 (by kernel_rfl),f36:=kqz Tryz.func329 (by kernel_rfl),t0:=Tryz.underlying0,a0:=Tryz.isAgg0,z0:=Tryz.sizeOf0,v0:=Tryz.zeroValue0,t3:=Tryz.underlying3,a3:=Tryz.isAgg3,z3:=Tryz.sizeOf3,v3:=Tryz.zeroValue3,t4:=Tryz.underlying4,a4:=Tryz.isAgg4,z4:=Tryz.sizeOf4,v4:=Tryz.zeroValue4,t9:=Tryz.underlying9,a9:=Tryz.isAgg9,z9:=Tryz.sizeOf9,v9:=Tryz.zeroValue9,t24:=Tryz.underlying22,a24:=Tryz.isAgg22,z24:=Tryz.sizeOf22,v24:=Tryz.zeroValue22,i9:=by kernel_rfl }
end Go.Proofs
namespace Go.Proofs.YtopanhneegpgcaaGreatDoor.Am
open Go Go.Proofs Go.RowKit Go.Sort
section
variable {G:List (Nat×Obj)}
def yvZ(a b:Bs):Option Int:=some (Lib.compareBytes a b)
def ycN:PC:=⟨[.h .s,.h .s],[.i .i64],fun x=>yvZ x.1 x.2,false⟩
theorem ycP:PCok aA G 90 ycN:=pc2 (t1:=.s) (t2:=.s) (rts:=[.i .i64]) rfl rfl rfl (isFn Tryz.func90 (by kernel_rfl) (by kernel_rfl)) fun S w x1 x2 y _ _ h=>by cases h;refine(Tryz.strings_Compare ⟨x1.toArray⟩ ⟨x2.toArray⟩ w).mono ?_;rintro e w' ⟨rfl,rfl⟩;exact⟨rfl,Ext.refl _⟩
def ypL(xs:List Bs):Option (List Bs):=bif decide (xs.length<1152921504606846976)then some (zyZ xs)else none
def zzE(xs:List Bs):Option (List Bs):=bif decide (xs.length<1152921504606846976)then some (Lib.compact xs)else none
def insTP(x:Int×List Bs×List Bs):Option (List Bs):=insP x.2.1 x.1 x.2.2
theorem insK:SCok aA G 261 ⟨⟨[(0,.own 0),(1,.h (.i .i64)),(2,.own 1)],[.osl .s 9,.osl .s 9]⟩,1,[(none,⟨[(0,.own 2)],[.dead,.dead,.osl .s 9]⟩)],insTP⟩:=
 xcX Tryz.insS (by decide) (isFn Tryz.func261 (by kernel_rfl) (by kernel_rfl))
theorem sortK:SCok aA G 102 ⟨⟨[(0,.own 0)],[.osl .s 9]⟩,0,[(none,⟨[],[.osl .s 9]⟩)],ypL⟩:=
 sort_sc (isFn Tryz.func102 (by kernel_rfl) (by kernel_rfl)) (fun a c w=>Tryz.slices_Sort_string_none a c w) fun b c l w h1 h2 h3=>Tryz.slices_Sort_string b 0 c l w h1 h2 h3
theorem compactK:SCok aA G 103 ⟨⟨[(0,.own 0)],[.osl .s 9]⟩,1,[(none,⟨[(0,.h (.sl .s))],[.dead]⟩)],zzE⟩:=
 ywW (cp:=fun l=>@Lib.compact Bs _ _ l) (isFn Tryz.func103 (by kernel_rfl) (by kernel_rfl)) (fun l=>@Lib.compact_length_le Bs _ _ l) rfl (fun a c w=>Tryz.slices_Compact_string_empty a c w) fun b c l w h1 h2 h3=>Tryz.slices_Compact_string b 0 c l w h1 h2 h3
end
end Go.Proofs.YtopanhneegpgcaaGreatDoor.Am
namespace Go.Proofs.YtopanhneegpgcaaGreatDoor.Am
open Go Go.Proofs Go.RowKit Go.Sort Go.Shelf
def enc2(x:Bs×Bs):LV:=[str x.1,str x.2]
theorem ylM(x:Bs×Bs):(enc2 x).length=2:=rfl
theorem ymC(x:Bs×Bs):∀v∈enc2 x,v.oneCell'=true:=fun v h=>by simp[enc2]at h;rcases h with rfl|rfl<;>rfl
theorem xbD:∀(ds:List (Bs×Bs)) (t:Nat),t<ds.length*2->(ds.flatMap enc2)[t]? = some ((enc2 ds[t/2]!)[t%2]!)
 |[],t,h=>by simp at h
 |x::ds,0,_=>rfl|x::ds,1,_=>rfl|x::ds,t+2,h=>by
  have h':t<ds.length*2:=by simp at h;omega
  have:=xbD ds t h';rw[show(t+2)/2=t/2+1 by omega,show(t+2)%2=t%2 by omega];simpa[enc2]using this
theorem zpF(ds:List (Bs×Bs)):(ds.flatMap enc2).length=ds.length*2:=by
 induction ds with
 |nil=>rfl|cons x ds ih=>simp only[List.flatMap_cons,aC,ih,ylM,aN];omega
theorem ycH(ds:List (Bs×Bs)):flatK enc2 2 ds.toArray=(ds.flatMap enc2).toArray:=by
 have hs:(flatK enc2 2 ds.toArray).size=ds.length*2:=by rw[size_flatK];simp
 refine Array.ext (by rw[hs];simp only[dS,zpF]) fun t h1 h2=>?_;have h:t<ds.length*2:=by rw[<-hs];exact h1
 have g1:=get_flatK enc2 2 ds.toArray t (by simpa using h);rw[getElem!_pos _ t h1]at g1;have g2:=xbD ds t h;rw[List.getElem?_eq_getElem (by rw[zpF];exact h)]at g2;rw[g1,List.getElem_toArray,Option.some.inj g2];have g3:ds.toArray[t/2]! = ds[t/2]!:=by rw[getElem!_def,getElem!_def];simp
 rw[g3]
abbrev T2:Ty:=.pr .s .s
theorem prs_of{S0:Mem}:∀{l:List (Bs×Bs)} {cs:LV},@RL (den T2) (rpD T2) S0 cs l->cs=l.flatMap enc2
 |[],_,h=>h|x::l,_,h=>by obtain⟨c,d,h1,h2,h3⟩:=h;obtain⟨c1,c2,h4,h5,h6⟩:=h2;have h5:c1=[str x.1]:=h5;have h6:c2=[str x.2]:=h6;rw[h1,h4,h5,h6,prs_of h3];rfl
theorem xcY{S0:Mem}:∀(l:List (Bs×Bs)),@RL (den T2) (rpD T2) S0 (l.flatMap enc2) l
 |[]=>rfl|x::l=>⟨enc2 x,l.flatMap enc2,rfl,⟨[str x.1],[str x.2],rfl,rfl,rfl⟩,xcY l⟩
def nodupB:List Bs->Bool
 |[]=>true|x::l=>!(l.any fun y=>y==x)&&nodupB l
theorem ypE:∀{l:List Bs},nodupB l=true->l.Nodup
 |[],_=>.nil|x::l,h=>by unfold nodupB at h;rw[aF,bU]at h;refine eB.2 ⟨fun hm=>?_,ypE h.2⟩;have:=List.any_eq_false.1 h.1 x hm;simp at this
def yfR(xs:List (Bs×Bs)):List (Bs×Bs):=yxX (fun x y=>leS x.1 y.1) xs
def yeY(xs:List (Bs×Bs)):Option (List (Bs×Bs)):=bif nodupB (xs.map (·.1))&&decide (xs.length<1152921504606846976)then some (yfR xs)else none
section
variable {P:Program}{G:List (Nat×Obj)}{ρ:Ren}
theorem ytR{xs:List (Bs×Bs)}{d:Array (Bs×Bs)}{cf:Bs×Bs->Bs×Bs->Int}(hcf:∀x y,ltOf cf x y=Op.bytesLess x.1 y.1)(hn:(xs.map (·.1)).Nodup)(hp:PermIn 0 xs.toArray.size xs.toArray d)(hs:SortedIn (ltOf cf) 0 xs.toArray.size d):d.toList=yfR xs:=by
 obtain⟨h1,_,h2⟩:=hp;have hp2:d.toList.Perm xs:=by
  have e1:d.extract 0 xs.toArray.size=d:=by rw[<-h1];simp
  have e2:xs.toArray.extract 0 xs.toArray.size=xs.toArray:=by simp
  rw[e1,e2]at h2;simpa using h2
 refine ztM (R:=fun x y=>leS x.1 y.1=true) (fun a ha b hb h k=>?_) (hp2.trans (zeY _ xs).symm) ?_ (ziF (fun a b=>ycK a.1 b.1) (fun a b c=>ydG a.1 b.1 c.1) xs)
 ·have hab:a.1=b.1:=fJ (zzP.1 h) (zzP.1 k);exact nodup_fst hn (hp2.mem_iff.1 ha) (hp2.mem_iff.1 hb) hab
 ·rw[bW];intro i j hi hj hij;have hi':i<d.size:=by simpa using hi
  have hj':j<d.size:=by simpa using hj
  have h3:=hs i j (aZ _) hij (by rw[<-h1];exact hj');rw[hcf,getElem!_pos d j hj',getElem!_pos d i hi']at h3;show leS _ _=true;unfold leS;simp only[iZ];rw[h3];rfl
where nodup_fst:∀{xs:List (Bs×Bs)},(xs.map (·.1)).Nodup->∀{a b:Bs×Bs},a∈xs->b∈xs->a.1=b.1->a=b
 |[],_,_,_,h,_,_=>by cases h
 |x::xs,hn,a,b,ha,hb,he=>by
  have hn:=eB.1 hn;rcases aK.1 ha with rfl|ha2
  ·rcases aK.1 hb with rfl|hb2
   ·rfl
   ·exact(hn.1 (aR.2 ⟨b,hb2,he.symm⟩)).elim
  ·rcases aK.1 hb with rfl|hb2
   ·exact(hn.1 (aR.2 ⟨a,ha2,he⟩)).elim
   ·exact nodup_fst hn.2 ha2 hb2 he
theorem yvD:∀(x y:Bs),decide (Lib.compareBytes x y<0)=decide (x<y)
 |[],[]=>by simp[Lib.compareBytes]
 |[],_::_=>by simp[Lib.compareBytes]
 |_::_,[]=>by simp[Lib.compareBytes]
 |a::x,b::y=>by
  refine decide_eq_decide.2 ?_;have h4:=decide_eq_decide.1 (yvD x y);have h5:Lib.compareBytes (a::x) (b::y)=if a<b then -1 else if b<a then 1 else Lib.compareBytes x y:=by rw[Lib.compareBytes]
  rw[List.cons_lt_cons_iff,<-h4,h5];by_cases h1:a<b
  ·simp[h1]
  ·by_cases h2:b<a
   ·have h3:¬a=b:=fun e=>by subst e;exact h1 h2
    simp[h1,h2,h3]
   ·have h3:a=b:=UInt8.le_antisymm (UInt8.not_lt.1 h2) (UInt8.not_lt.1 h1);rw[zH h1,zH h2];exact⟨fun h=>.inr ⟨h3,h⟩,fun h=>h.elim (fun h=>absurd h h1) fun h=>h.2⟩
theorem ywQ(x y:Bs×Bs):ltOf (fun x y:Bs×Bs=>Lib.compareBytes x.1 y.1) x y=Op.bytesLess x.1 y.1:=by unfold ltOf;rw[bytesLess_eq];exact yvD x.1 y.1
theorem swo_cmp:SWO (ltOf fun x y:Bs×Bs=>Lib.compareBytes x.1 y.1) where
 irrefl x:=by rw[ywQ,bytesLess_eq];simp[eJ]
 trans x y z h1 h2:=by rw[ywQ,bytesLess_eq,zD]at *;exact fF h1 h2
 ntrans x y z h1 h2:=by rw[ywQ,bytesLess_eq,decide_eq_false_iff_not]at *;rw[fV]at *;exact iI h2 h1
theorem sortF_sc{f g:FuncId}{T:TypeId}(hfn:IsFn P f) (h0:∀(a:Option Addr) (c:Nat) (w:World),Calls P f #[.slice a 0 c,.func (.func g) #[] #[]] w fun x w'=>x = .returned (.tuple #[])/\w'=w) (h1:∀(b c:Nat) (d:Array (Bs×Bs)) (w:World),HoldsK enc2 2 w b 0 d->b<w.heap.size->d.size<4611686018427387904->Calls P f #[.slice (some ⟨b,0,none⟩) d.size c,.func (.func g) #[] #[]] w fun x w'=>x = .returned (.tuple #[])/\∃d' n os,PermIn 0 d.size d d'/\SortedIn (ltOf fun x y:Bs×Bs=>Lib.compareBytes x.1 y.1) 0 d.size d'/\w'=sortWorldK enc2 2 w b 0 n d' os):
  SCok P G f ⟨⟨[(0,.own 0),(1,.fn g [] [])],[.osl T2 T]⟩,0,[(none,⟨[],[.osl T2 T]⟩)],fun(xs:List (Bs×Bs))=>yeY xs⟩:=by
 refine⟨hfn,fun S0 w0 us E0 L0 (xs:List (Bs×Bs)) (d:List (Bs×Bs)) _ hul R hy=>?_⟩;have hy:yeY xs=some d:=hy;unfold yeY at hy;obtain⟨hb,hy⟩:=zaG hy;have hnd:=ypE (zbH hb);have hlt:=zC (zbR hb);have hd:yfR xs=d:=Option.some.inj hy;subst hd;have hul:us.length=2:=hul;obtain⟨u,uf,rfl⟩:∃u uf,us=[u,uf]:=by
  match us,hul with
  |[u,uf],_=>exact⟨u,uf,rfl⟩
 have hput:(Shp.put (⟨[(0,.own 0),(1,.fn g [] [])],[.osl T2 T]⟩:Shp) xs)=⟨[(0,.own 0 0),(1,.fn g [] [])],[.osl 0 T2 T xs]⟩:=rfl;have R:RelV ⟨S0,zcD L0,w0⟩ S0 E0 L0 ⟨[(0,.own 0 0),(1,.fn g [] [])],[.osl 0 T2 T xs]⟩ (fun t=>[u,uf].getD t undef) w0:=by rw[<-hput];exact R
 obtain⟨x1,y1,huf,q1,q2⟩:=(show VC S0 E0 (.fn g [] []) uf from R.sl 1);cases q1;cases q2;have huf:uf = .func (.func g) #[] #[]:=huf;subst huf;obtain⟨v,cs,rs,hL,hE,hrl,hsm,ho,hc⟩:=ymQ R;have hsl:(yfR xs).length=xs.length:=(zeY _ xs).length_eq;have hcs:=prs_of hrl;have H:=R.hs;rcases hc with⟨hx,a,c,hu⟩|⟨b,c,fz,hu,hv,k1,k2,k3,k4,k5⟩
 ·have hu:u = .slice a 0 c:=hu;have hso:yfR xs=[]:=by rw[hx];rfl
  rw[hu];refine(h0 a c w0).mono ?_;rintro x w' ⟨rfl,rfl⟩;refine⟨_,rfl,?_⟩;rw[hso];rw[hx]at hrl hsm hL;exact ygF (e:=T2) (ys:=[]) (by rw[hL]at H ⊢;exact H) hE hrl hsm
 ·have hu:u=sl b 0 xs.length c:=hu;subst hcs;have hb:b<w0.heap.size:=(aP.1 k4).1;rw[hu];have hh:HoldsK enc2 2 w0 b 0 xs.toArray:=by
   unfold HoldsK;rw[ycH];have k4':w0.heap[b]? = some (.cells ((xs.flatMap enc2).map id++rs).toArray T fz):=by rw[fS];exact k4
   exact holds_of k4' (by rw[fS];exact k5)
  have h2:=h1 b c xs.toArray w0 hh hb (by simp;omega);simp only[dS]at h2;refine h2.mono ?_;rintro x w' ⟨rfl,d',q,os,hp,hs,rfl⟩;refine⟨_,rfl,?_⟩;have hd:d'.toList=yfR xs:=ytR ywQ hnd (by simpa using hp) (by simpa using hs);have hd2:d'=(yfR xs).toArray:=by rw[<-hd]
  subst hd2;unfold sortWorldK putRowK;rw[ycH];obtain⟨g1,g2,g3⟩:=yaL (enc:=id) (ds:=(yfR xs).flatMap enc2) (q:=q) (os:=os) k4 (by rw[zpF,zpF,hsl]);rw[fS]at g1;have H1:HS ⟨S0,zcD L0,w0⟩ S0 w0 [.osl (sl b 0 xs.length c) xs.length 2 (xs.flatMap enc2) rs T]:=by rw[hL,hv]at H ⊢;exact H
  have H2:=HS.inplace (w':=grow (putRow id (Go.Sort.ahead w0 q) b 0 ((yfR xs).flatMap enc2).toArray) os) H1 k4 k5 k3 k1 (aI _) (cs':=(yfR xs).flatMap enc2) (rs':=rs) (by rw[zpF,hsl]) (by rw[aC,aC,zpF,zpF,hsl]) rfl rfl rfl g3 g2 g1;rw[<-hsl]at H2;refine ygF (e:=T2) (ys:=yfR xs) H2 hE (xcY _) ?_;rw[hsl];exact .inl hu
end
end Go.Proofs.YtopanhneegpgcaaGreatDoor.Am
namespace Go.Proofs
open Go.Shelf
def Tryz.sortP_ren:Go.Shelf.Ren:=⟨fun|6=>88|15=>189|14=>188|28=>257|29=>258|20=>249|21=>250|22=>251|23=>252|24=>253|25=>254|26=>255|27=>256|46=>297|47=>298|48=>299|49=>300|50=>301|57=>328|n=>n,fun|22=>31|24=>33|25=>120|3=>3|39=>201|0=>0|53=>247|55=>249|4=>4|46=>241|45=>240|50=>94|5=>5|9=>9|66=>274|70=>278|76=>301|77=>302|n=>n,fun|n=>n⟩
theorem Tryz.sortP:Go.Proofs.SlLaysF0.n6 aA Tryz.sortP_ren:={mixed:=by kernel_rfl,f6:=⟨Tryz.f88.name,by decide,kqz Tryz.func88 (by kernel_rfl)⟩,f14:=⟨Tryz.f188.name,by decide,kqz Tryz.func188 (by kernel_rfl)⟩,f15:=kqz Tryz.func189 (by kernel_rfl),f20:=⟨Tryz.f249.name,by decide,kqz Tryz.func249 (by kernel_rfl)⟩,f21:=⟨Tryz.f250.name,by decide,kqz Tryz.func250 (by kernel_rfl)⟩,f22:=⟨Tryz.f251.name,by decide,kqz Tryz.func251 (by kernel_rfl)⟩,f23:=⟨Tryz.f252.name,by decide,kqz Tryz.func252 (by kernel_rfl)⟩,f24:=⟨Tryz.f253.name,by decide,kqz Tryz.func253 (by kernel_rfl)⟩,f25:=⟨Tryz.f254.name,by decide,kqz Tryz.func254 (by kernel_rfl)⟩,f26:=⟨Tryz.f255.name,by decide,kqz Tryz.func255 (by kernel_rfl)⟩,f27:=⟨Tryz.f256.name,by decide,kqz Tryz.func256 (by kernel_rfl)⟩,f28:=kqz Tryz.func257 (by kernel_rfl),f29:=kqz Tryz.func258 (by kernel_rfl),f46:=⟨Tryz.f297.name,by decide,kqz Tryz.func297 (by kernel_rfl)⟩,f47:=kqz Tryz.func298 (by kernel_rfl),f48:=kqz Tryz.func299 (by kernel_rfl),f49:=⟨Tryz.f300.name,by decide,kqz Tryz.func300 (by kernel_rfl)⟩,f50:=⟨Tryz.f301.name,by decide,kqz Tryz.func301 (by kernel_rfl)⟩,f57:=⟨Tryz.f328.name,by decide,kqz Tryz.func328 (by kernel_rfl)⟩,t0:=Tryz.underlying0,a0:=Tryz.isAgg0,z0:=Tryz.sizeOf0,v0:=Tryz.zeroValue0,t3:=Tryz.underlying3,a3:=Tryz.isAgg3,z3:=Tryz.sizeOf3,v3:=Tryz.zeroValue3,t4:=Tryz.underlying4,a4:=Tryz.isAgg4,z4:=Tryz.sizeOf4,v4:=Tryz.zeroValue4,t5:=Tryz.underlying5,a5:=Tryz.isAgg5,z5:=Tryz.sizeOf5,v5:=Tryz.zeroValue5,t9:=Tryz.underlying9,a9:=Tryz.isAgg9,z9:=Tryz.sizeOf9,v9:=Tryz.zeroValue9,t22:=Tryz.underlying31,a22:=Tryz.isAgg31,z22:=Tryz.sizeOf31,v22:=Tryz.zeroValue31,t25:=Tryz.underlying120,a25:=Tryz.isAgg120,z25:=Tryz.sizeOf120,v25:=Tryz.zeroValue120,t39:=Tryz.underlying201,a39:=Tryz.isAgg201,z39:=Tryz.sizeOf201,v39:=Tryz.zeroValue201,t45:=Tryz.underlying240,a45:=Tryz.isAgg240,z45:=Tryz.sizeOf240,v45:=Tryz.zeroValue240,t46:=Tryz.underlying241,a46:=Tryz.isAgg241,z46:=Tryz.sizeOf241,v46:=Tryz.zeroValue241,t50:=Tryz.underlying94,a50:=Tryz.isAgg94,z50:=Tryz.sizeOf94,v50:=Tryz.zeroValue94,t53:=Tryz.underlying247,a53:=Tryz.isAgg247,z53:=Tryz.sizeOf247,v53:=Tryz.zeroValue247,t55:=Tryz.underlying249,a55:=Tryz.isAgg249,z55:=Tryz.sizeOf249,v55:=Tryz.zeroValue249,t66:=Tryz.underlying274,a66:=Tryz.isAgg274,z66:=Tryz.sizeOf274,v66:=Tryz.zeroValue274,t70:=Tryz.underlying278,a70:=Tryz.isAgg278,z70:=Tryz.sizeOf278,v70:=Tryz.zeroValue278,t76:=Tryz.underlying301,a76:=Tryz.isAgg301,z76:=Tryz.sizeOf301,v76:=Tryz.zeroValue301,t77:=Tryz.underlying302,a77:=Tryz.isAgg302,z77:=Tryz.sizeOf302,v77:=Tryz.zeroValue302 }
def Tryz.sortQ_ren:Go.Shelf.Ren:=⟨fun|6=>210|15=>189|14=>277|28=>257|29=>258|20=>308|21=>309|22=>310|23=>311|24=>312|25=>313|26=>314|27=>315|46=>331|47=>298|48=>299|49=>332|50=>333|57=>341|n=>n,fun|22=>72|24=>75|25=>158|3=>3|39=>201|0=>0|53=>247|55=>249|4=>4|46=>241|45=>240|50=>94|5=>5|9=>9|66=>274|70=>278|76=>301|77=>302|n=>n,fun|n=>n⟩
theorem Tryz.sortQ:Go.Proofs.SlLaysF0.n6 aA Tryz.sortQ_ren:={mixed:=by kernel_rfl,f6:=⟨Tryz.f210.name,by decide,kqz Tryz.func210 (by kernel_rfl)⟩,f14:=⟨Tryz.f277.name,by decide,kqz Tryz.func277 (by kernel_rfl)⟩,f15:=kqz Tryz.func189 (by kernel_rfl),f20:=⟨Tryz.f308.name,by decide,kqz Tryz.func308 (by kernel_rfl)⟩,f21:=⟨Tryz.f309.name,by decide,kqz Tryz.func309 (by kernel_rfl)⟩,f22:=⟨Tryz.f310.name,by decide,kqz Tryz.func310 (by kernel_rfl)⟩,f23:=⟨Tryz.f311.name,by decide,kqz Tryz.func311 (by kernel_rfl)⟩,f24:=⟨Tryz.f312.name,by decide,kqz Tryz.func312 (by kernel_rfl)⟩,f25:=⟨Tryz.f313.name,by decide,kqz Tryz.func313 (by kernel_rfl)⟩,f26:=⟨Tryz.f314.name,by decide,kqz Tryz.func314 (by kernel_rfl)⟩,f27:=⟨Tryz.f315.name,by decide,kqz Tryz.func315 (by kernel_rfl)⟩,f28:=kqz Tryz.func257 (by kernel_rfl),f29:=kqz Tryz.func258 (by kernel_rfl),f46:=⟨Tryz.f331.name,by decide,kqz Tryz.func331 (by kernel_rfl)⟩,f47:=kqz Tryz.func298 (by kernel_rfl),f48:=kqz Tryz.func299 (by kernel_rfl),f49:=⟨Tryz.f332.name,by decide,kqz Tryz.func332 (by kernel_rfl)⟩,f50:=⟨Tryz.f333.name,by decide,kqz Tryz.func333 (by kernel_rfl)⟩,f57:=⟨Tryz.f341.name,by decide,kqz Tryz.func341 (by kernel_rfl)⟩,t0:=Tryz.underlying0,a0:=Tryz.isAgg0,z0:=Tryz.sizeOf0,v0:=Tryz.zeroValue0,t3:=Tryz.underlying3,a3:=Tryz.isAgg3,z3:=Tryz.sizeOf3,v3:=Tryz.zeroValue3,t4:=Tryz.underlying4,a4:=Tryz.isAgg4,z4:=Tryz.sizeOf4,v4:=Tryz.zeroValue4,t5:=Tryz.underlying5,a5:=Tryz.isAgg5,z5:=Tryz.sizeOf5,v5:=Tryz.zeroValue5,t9:=Tryz.underlying9,a9:=Tryz.isAgg9,z9:=Tryz.sizeOf9,v9:=Tryz.zeroValue9,t22:=Tryz.underlying72,a22:=Tryz.isAgg72,z22:=Tryz.sizeOf72,v22:=Tryz.zeroValue72,t25:=Tryz.underlying158,a25:=Tryz.isAgg158,z25:=Tryz.sizeOf158,v25:=Tryz.zeroValue158,t39:=Tryz.underlying201,a39:=Tryz.isAgg201,z39:=Tryz.sizeOf201,v39:=Tryz.zeroValue201,t45:=Tryz.underlying240,a45:=Tryz.isAgg240,z45:=Tryz.sizeOf240,v45:=Tryz.zeroValue240,t46:=Tryz.underlying241,a46:=Tryz.isAgg241,z46:=Tryz.sizeOf241,v46:=Tryz.zeroValue241,t50:=Tryz.underlying94,a50:=Tryz.isAgg94,z50:=Tryz.sizeOf94,v50:=Tryz.zeroValue94,t53:=Tryz.underlying247,a53:=Tryz.isAgg247,z53:=Tryz.sizeOf247,v53:=Tryz.zeroValue247,t55:=Tryz.underlying249,a55:=Tryz.isAgg249,z55:=Tryz.sizeOf249,v55:=Tryz.zeroValue249,t66:=Tryz.underlying274,a66:=Tryz.isAgg274,z66:=Tryz.sizeOf274,v66:=Tryz.zeroValue274,t70:=Tryz.underlying278,a70:=Tryz.isAgg278,z70:=Tryz.sizeOf278,v70:=Tryz.zeroValue278,t76:=Tryz.underlying301,a76:=Tryz.isAgg301,z76:=Tryz.sizeOf301,v76:=Tryz.zeroValue301,t77:=Tryz.underlying302,a77:=Tryz.isAgg302,z77:=Tryz.sizeOf302,v77:=Tryz.zeroValue302 }
end Go.Proofs
namespace Go.Proofs
open Go.Shelf Go.RowKit Go.Lib Go.Sort
set_option maxHeartbeats 1000000 in
theorem YtopanhneegpgcaaGreatDoor.cmpP(x y:List UInt8×List UInt8)(W:World):Calls aA 89 #[.agg (YtopanhneegpgcaaGreatDoor.Am.enc2 x).toArray,.agg (YtopanhneegpgcaaGreatDoor.Am.enc2 y).toArray] W fun e w'=>e = .returned (.int .i64 (Lib.compareBytes x.1 y.1))/\∃q os',w'=grow (W.drewN q) os':=by
 have hcon:=fun W'=>Tryz.strings_Compare ⟨x.1.toArray⟩ ⟨y.1.toArray⟩ W';change ∀W',Calls aA 90 _ _ _ at hcon;change ∀W',Calls _ _ _ _ fun e w'=>e = .returned (.int .i64 (Lib.compareBytes x.1 y.1))/\w'=W' at hcon;show Calls _ _ #[.agg #[.string ⟨x.1.toArray⟩,.string ⟨x.2.toArray⟩],.agg #[.string ⟨y.1.toArray⟩,.string ⟨y.2.toArray⟩]] _ _;generalize Lib.compareBytes x.1 y.1=r at hcon ⊢
 go_enter Tryz.func89,Tryz.ntmps89
 go_wp2_with (go_at_call 90;refine(hcon _).mono ?_;rintro e w' ⟨rfl,rfl⟩)
 go_ret
 exact⟨rfl,0,_,by rw[alloc_eq_grow,alloc_eq_grow,grow_grow];rfl⟩
end Go.Proofs
namespace Go.Proofs.YtopanhneegpgcaaGreatDoor.Am
open Go Go.Proofs Go.RowKit Go.Sort
section
variable {G:List (Nat×Obj)}
theorem sortF89K:SCok aA G 88 ⟨⟨[(0,.own 0),(1,.fn 89 [] [])],[.osl T2 33]⟩,0,[(none,⟨[],[.osl T2 33]⟩)],fun(xs:List (List UInt8×List UInt8))=>yeY xs⟩:=
 sortF_sc (isFn Tryz.func88 (by kernel_rfl) (by kernel_rfl)) (fun a c w=>AnyF.slices_SortFunc_none Tryz.sortP a c _ w) fun b c d w h1 h2 h3=>AnyQ.slices_SortFunc Tryz.sortP 2 Tryz.isAgg33 Tryz.sizeOf33 enc2 ylM ymC (fun x y:List UInt8×List UInt8=>Lib.compareBytes x.1 y.1) swo_cmp 89 #[] b 0 c d w (enters_of Tryz.func89 (by kernel_rfl) rfl) (fun _ _ _ _ x y=>YtopanhneegpgcaaGreatDoor.cmpP x y _) h1 h2 h3
end
end Go.Proofs.YtopanhneegpgcaaGreatDoor.Am
namespace Go.Proofs
open Go.Shelf
def Tryz.keys133_ren:Go.Shelf.Ren:=⟨fun|7=>133|10=>215|n=>n,fun|23=>160|26=>9|3=>157|28=>165|0=>0|27=>164|33=>25|4=>4|n=>n,fun|n=>n⟩
theorem Tryz.keys133:Go.Proofs.SlLaysZ.n7 aA Tryz.keys133_ren:={mixed:=by kernel_rfl,f7:=⟨Tryz.f133.name,by decide,kqz Tryz.func133 (by kernel_rfl)⟩,f10:=⟨Tryz.f215.name,by decide,kqz Tryz.func215 (by kernel_rfl)⟩,t0:=Tryz.underlying0,a0:=Tryz.isAgg0,z0:=Tryz.sizeOf0,v0:=Tryz.zeroValue0,t4:=Tryz.underlying4,a4:=Tryz.isAgg4,z4:=Tryz.sizeOf4,v4:=Tryz.zeroValue4,t23:=Tryz.underlying160,a23:=Tryz.isAgg160,z23:=Tryz.sizeOf160,v23:=Tryz.zeroValue160,t26:=Tryz.underlying9,a26:=Tryz.isAgg9,z26:=Tryz.sizeOf9,v26:=Tryz.zeroValue9,t27:=Tryz.underlying164,a27:=Tryz.isAgg164,z27:=Tryz.sizeOf164,v27:=Tryz.zeroValue164,t28:=Tryz.underlying165,a28:=Tryz.isAgg165,z28:=Tryz.sizeOf165,v28:=Tryz.zeroValue165,t33:=Tryz.underlying25,a33:=Tryz.isAgg25,z33:=Tryz.sizeOf25,v33:=Tryz.zeroValue25 }
def Tryz.keys196_ren:Go.Shelf.Ren:=⟨fun|7=>196|10=>260|n=>n,fun|23=>123|26=>9|3=>133|28=>165|0=>0|27=>164|33=>25|4=>4|n=>n,fun|n=>n⟩
theorem Tryz.keys196:Go.Proofs.SlLaysZ.n7 aA Tryz.keys196_ren:={mixed:=by kernel_rfl,f7:=⟨Tryz.f196.name,by decide,kqz Tryz.func196 (by kernel_rfl)⟩,f10:=⟨Tryz.f260.name,by decide,kqz Tryz.func260 (by kernel_rfl)⟩,t0:=Tryz.underlying0,a0:=Tryz.isAgg0,z0:=Tryz.sizeOf0,v0:=Tryz.zeroValue0,t4:=Tryz.underlying4,a4:=Tryz.isAgg4,z4:=Tryz.sizeOf4,v4:=Tryz.zeroValue4,t23:=Tryz.underlying123,a23:=Tryz.isAgg123,z23:=Tryz.sizeOf123,v23:=Tryz.zeroValue123,t26:=Tryz.underlying9,a26:=Tryz.isAgg9,z26:=Tryz.sizeOf9,v26:=Tryz.zeroValue9,t27:=Tryz.underlying164,a27:=Tryz.isAgg164,z27:=Tryz.sizeOf164,v27:=Tryz.zeroValue164,t28:=Tryz.underlying165,a28:=Tryz.isAgg165,z28:=Tryz.sizeOf165,v28:=Tryz.zeroValue165,t33:=Tryz.underlying25,a33:=Tryz.isAgg25,z33:=Tryz.sizeOf25,v33:=Tryz.zeroValue25 }
def Tryz.keys203_ren:Go.Shelf.Ren:=⟨fun|7=>203|10=>271|n=>n,fun|23=>125|26=>9|3=>51|28=>165|0=>0|27=>164|33=>25|4=>4|n=>n,fun|n=>n⟩
theorem Tryz.keys203:Go.Proofs.SlLaysZ.n7 aA Tryz.keys203_ren:={mixed:=by kernel_rfl,f7:=⟨Tryz.f203.name,by decide,kqz Tryz.func203 (by kernel_rfl)⟩,f10:=⟨Tryz.f271.name,by decide,kqz Tryz.func271 (by kernel_rfl)⟩,t0:=Tryz.underlying0,a0:=Tryz.isAgg0,z0:=Tryz.sizeOf0,v0:=Tryz.zeroValue0,t4:=Tryz.underlying4,a4:=Tryz.isAgg4,z4:=Tryz.sizeOf4,v4:=Tryz.zeroValue4,t23:=Tryz.underlying125,a23:=Tryz.isAgg125,z23:=Tryz.sizeOf125,v23:=Tryz.zeroValue125,t26:=Tryz.underlying9,a26:=Tryz.isAgg9,z26:=Tryz.sizeOf9,v26:=Tryz.zeroValue9,t27:=Tryz.underlying164,a27:=Tryz.isAgg164,z27:=Tryz.sizeOf164,v27:=Tryz.zeroValue164,t28:=Tryz.underlying165,a28:=Tryz.isAgg165,z28:=Tryz.sizeOf165,v28:=Tryz.zeroValue165,t33:=Tryz.underlying25,a33:=Tryz.isAgg25,z33:=Tryz.sizeOf25,v33:=Tryz.zeroValue25 }
def Tryz.keys204_ren:Go.Shelf.Ren:=⟨fun|7=>204|10=>272|n=>n,fun|23=>122|26=>9|3=>77|28=>165|0=>0|27=>164|33=>25|4=>4|n=>n,fun|n=>n⟩
theorem Tryz.keys204:Go.Proofs.SlLaysZ.n7 aA Tryz.keys204_ren:={mixed:=by kernel_rfl,f7:=⟨Tryz.f204.name,by decide,kqz Tryz.func204 (by kernel_rfl)⟩,f10:=⟨Tryz.f272.name,by decide,kqz Tryz.func272 (by kernel_rfl)⟩,t0:=Tryz.underlying0,a0:=Tryz.isAgg0,z0:=Tryz.sizeOf0,v0:=Tryz.zeroValue0,t4:=Tryz.underlying4,a4:=Tryz.isAgg4,z4:=Tryz.sizeOf4,v4:=Tryz.zeroValue4,t23:=Tryz.underlying122,a23:=Tryz.isAgg122,z23:=Tryz.sizeOf122,v23:=Tryz.zeroValue122,t26:=Tryz.underlying9,a26:=Tryz.isAgg9,z26:=Tryz.sizeOf9,v26:=Tryz.zeroValue9,t27:=Tryz.underlying164,a27:=Tryz.isAgg164,z27:=Tryz.sizeOf164,v27:=Tryz.zeroValue164,t28:=Tryz.underlying165,a28:=Tryz.isAgg165,z28:=Tryz.sizeOf165,v28:=Tryz.zeroValue165,t33:=Tryz.underlying25,a33:=Tryz.isAgg25,z33:=Tryz.sizeOf25,v33:=Tryz.zeroValue25 }
def Tryz.keys205_ren:Go.Shelf.Ren:=⟨fun|7=>205|10=>273|n=>n,fun|23=>124|26=>9|3=>49|28=>165|0=>0|27=>164|33=>25|4=>4|n=>n,fun|n=>n⟩
theorem Tryz.keys205:Go.Proofs.SlLaysZ.n7 aA Tryz.keys205_ren:={mixed:=by kernel_rfl,f7:=⟨Tryz.f205.name,by decide,kqz Tryz.func205 (by kernel_rfl)⟩,f10:=⟨Tryz.f273.name,by decide,kqz Tryz.func273 (by kernel_rfl)⟩,t0:=Tryz.underlying0,a0:=Tryz.isAgg0,z0:=Tryz.sizeOf0,v0:=Tryz.zeroValue0,t4:=Tryz.underlying4,a4:=Tryz.isAgg4,z4:=Tryz.sizeOf4,v4:=Tryz.zeroValue4,t23:=Tryz.underlying124,a23:=Tryz.isAgg124,z23:=Tryz.sizeOf124,v23:=Tryz.zeroValue124,t26:=Tryz.underlying9,a26:=Tryz.isAgg9,z26:=Tryz.sizeOf9,v26:=Tryz.zeroValue9,t27:=Tryz.underlying164,a27:=Tryz.isAgg164,z27:=Tryz.sizeOf164,v27:=Tryz.zeroValue164,t28:=Tryz.underlying165,a28:=Tryz.isAgg165,z28:=Tryz.sizeOf165,v28:=Tryz.zeroValue165,t33:=Tryz.underlying25,a33:=Tryz.isAgg25,z33:=Tryz.sizeOf25,v33:=Tryz.zeroValue25 }
def Tryz.sortedA_ren:Go.Shelf.Ren:=⟨fun|6=>132|8=>214|9=>102|11=>279|13=>189|12=>202|23=>257|24=>258|14=>262|15=>263|16=>264|17=>265|18=>266|19=>267|20=>268|21=>269|22=>270|25=>304|26=>298|27=>299|28=>305|29=>306|30=>307|31=>330|n=>n,fun|26=>9|28=>165|24=>22|0=>0|3=>3|37=>201|48=>247|50=>249|4=>4|40=>241|39=>240|45=>94|5=>5|9=>9|51=>274|55=>278|57=>301|58=>302|33=>25|n=>n,fun|n=>n⟩
theorem Tryz.sortedA:Go.Proofs.SlLaysZ.n6 aA Tryz.sortedA_ren:={mixed:=by kernel_rfl,f6:=⟨Tryz.f132.name,by decide,kqz Tryz.func132 (by kernel_rfl)⟩,f8:=⟨Tryz.f214.name,by decide,kqz Tryz.func214 (by kernel_rfl)⟩,f11:=⟨Tryz.f279.name,by decide,kqz Tryz.func279 (by kernel_rfl)⟩,t0:=Tryz.underlying0,a0:=Tryz.isAgg0,z0:=Tryz.sizeOf0,v0:=Tryz.zeroValue0,t24:=Tryz.underlying22,a24:=Tryz.isAgg22,z24:=Tryz.sizeOf22,v24:=Tryz.zeroValue22,t26:=Tryz.underlying9,a26:=Tryz.isAgg9,z26:=Tryz.sizeOf9,v26:=Tryz.zeroValue9,t28:=Tryz.underlying165,a28:=Tryz.isAgg165,z28:=Tryz.sizeOf165,v28:=Tryz.zeroValue165,i26:=by kernel_rfl }
def Tryz.sortA_ren:Go.Shelf.Ren:=⟨fun|6=>102|8=>189|9=>202|19=>257|20=>258|21=>262|22=>263|23=>264|24=>265|25=>266|26=>267|27=>268|28=>269|29=>270|36=>304|31=>298|32=>299|37=>305|38=>306|39=>307|41=>330|n=>n,fun|27=>22|29=>9|3=>3|32=>201|26=>22|0=>0|44=>247|46=>249|4=>4|36=>241|35=>240|41=>94|5=>5|9=>9|53=>274|57=>278|63=>301|64=>302|n=>n,fun|n=>n⟩
theorem Tryz.sortA:Go.Proofs.SlLaysM.n6 aA Tryz.sortA_ren:={mixed:=by kernel_rfl,f6:=⟨Tryz.f102.name,by decide,kqz Tryz.func102 (by kernel_rfl)⟩,f8:=kqz Tryz.func189 (by kernel_rfl),f9:=⟨Tryz.f202.name,by decide,kqz Tryz.func202 (by kernel_rfl)⟩,f19:=kqz Tryz.func257 (by kernel_rfl),f20:=kqz Tryz.func258 (by kernel_rfl),f21:=⟨Tryz.f262.name,by decide,kqz Tryz.func262 (by kernel_rfl)⟩,f22:=⟨Tryz.f263.name,by decide,kqz Tryz.func263 (by kernel_rfl)⟩,f23:=⟨Tryz.f264.name,by decide,kqz Tryz.func264 (by kernel_rfl)⟩,f24:=⟨Tryz.f265.name,by decide,kqz Tryz.func265 (by kernel_rfl)⟩,f25:=⟨Tryz.f266.name,by decide,kqz Tryz.func266 (by kernel_rfl)⟩,f26:=⟨Tryz.f267.name,by decide,kqz Tryz.func267 (by kernel_rfl)⟩,f27:=⟨Tryz.f268.name,by decide,kqz Tryz.func268 (by kernel_rfl)⟩,f28:=⟨Tryz.f269.name,by decide,kqz Tryz.func269 (by kernel_rfl)⟩,f29:=⟨Tryz.f270.name,by decide,kqz Tryz.func270 (by kernel_rfl)⟩,f31:=kqz Tryz.func298 (by kernel_rfl),f32:=kqz Tryz.func299 (by kernel_rfl),f36:=⟨Tryz.f304.name,by decide,kqz Tryz.func304 (by kernel_rfl)⟩,f37:=⟨Tryz.f305.name,by decide,kqz Tryz.func305 (by kernel_rfl)⟩,f38:=⟨Tryz.f306.name,by decide,kqz Tryz.func306 (by kernel_rfl)⟩,f39:=⟨Tryz.f307.name,by decide,kqz Tryz.func307 (by kernel_rfl)⟩,f41:=⟨Tryz.f330.name,by decide,kqz Tryz.func330 (by kernel_rfl)⟩,t0:=Tryz.underlying0,a0:=Tryz.isAgg0,z0:=Tryz.sizeOf0,v0:=Tryz.zeroValue0,t3:=Tryz.underlying3,a3:=Tryz.isAgg3,z3:=Tryz.sizeOf3,v3:=Tryz.zeroValue3,t4:=Tryz.underlying4,a4:=Tryz.isAgg4,z4:=Tryz.sizeOf4,v4:=Tryz.zeroValue4,t5:=Tryz.underlying5,a5:=Tryz.isAgg5,z5:=Tryz.sizeOf5,v5:=Tryz.zeroValue5,t9:=Tryz.underlying9,a9:=Tryz.isAgg9,z9:=Tryz.sizeOf9,v9:=Tryz.zeroValue9,t26:=Tryz.underlying22,a26:=Tryz.isAgg22,z26:=Tryz.sizeOf22,v26:=Tryz.zeroValue22,t27:=Tryz.underlying22,a27:=Tryz.isAgg22,z27:=Tryz.sizeOf22,v27:=Tryz.zeroValue22,t29:=Tryz.underlying9,a29:=Tryz.isAgg9,z29:=Tryz.sizeOf9,v29:=Tryz.zeroValue9,t32:=Tryz.underlying201,a32:=Tryz.isAgg201,z32:=Tryz.sizeOf201,v32:=Tryz.zeroValue201,t35:=Tryz.underlying240,a35:=Tryz.isAgg240,z35:=Tryz.sizeOf240,v35:=Tryz.zeroValue240,t36:=Tryz.underlying241,a36:=Tryz.isAgg241,z36:=Tryz.sizeOf241,v36:=Tryz.zeroValue241,t41:=Tryz.underlying94,a41:=Tryz.isAgg94,z41:=Tryz.sizeOf94,v41:=Tryz.zeroValue94,t44:=Tryz.underlying247,a44:=Tryz.isAgg247,z44:=Tryz.sizeOf247,v44:=Tryz.zeroValue247,t46:=Tryz.underlying249,a46:=Tryz.isAgg249,z46:=Tryz.sizeOf249,v46:=Tryz.zeroValue249,t53:=Tryz.underlying274,a53:=Tryz.isAgg274,z53:=Tryz.sizeOf274,v53:=Tryz.zeroValue274,t57:=Tryz.underlying278,a57:=Tryz.isAgg278,z57:=Tryz.sizeOf278,v57:=Tryz.zeroValue278,t63:=Tryz.underlying301,a63:=Tryz.isAgg301,z63:=Tryz.sizeOf301,v63:=Tryz.zeroValue301,t64:=Tryz.underlying302,a64:=Tryz.isAgg302,z64:=Tryz.sizeOf302,v64:=Tryz.zeroValue302 }
end Go.Proofs
namespace Go.Proofs
open Go.RowKit Go.Maps Go.Sort Go.Shelf
theorem YtopanhneegpgcaaGreatDoor.sortsA(m:Nat):AnyZ.SortsIn aA Tryz.sortedA_ren Fence.wide m:=
 ⟨fun blk off cap ss W hH hblk hsz=>callsIn_wide.2 (AnyM.slices_Sort_string Tryz.sortA blk off cap ss W hH hblk hsz),
  fun p cap W=>callsIn_wide.2 (AnyM.slices_Sort_string_none Tryz.sortA p cap W)⟩
theorem YtopanhneegpgcaaGreatDoor.sorted215K(Bm b nn:Nat)(D0:DataW Unit)(w:World)(hB:Bm<w.heap.size)(hc:w.cell? ⟨Bm,0,none⟩=some (.map (some b)))(ho:w.ownsMap aA 9 YtopanhneegpgcaaGreatDoor.Am.anyV b nn D0)(hmax:Maps.size D0<=maxLen)(hb:Maps.size D0*16<=140737488355328):Calls aA 132 #[.func (.func 215) #[] #[.pointer (some ⟨Bm,0,none⟩)]] w fun e w'=>∃(v:Value) (ss:List (List UInt8)),e = .returned v/\ss.Perm (strKeys D0)/\w'.ownsRow w.heap.size 9 1 v ss.length ((ss.mergeSort (fun x y=>decide (x<=y))).map encStr)/\(v = .slice none 0 0↔ss=[])/\Below w.heap.size w w':=by
 have hseq:SeqGives Fence.wide 2 aA 215 #[.pointer (some ⟨Bm,0,none⟩)] encStr (fun ss=>ss.Perm (strKeys D0)) (Maps.size D0) w:=
  AnyZ.keys_gives (ρ:=Tryz.keys133_ren) { Tryz.keys133 with } Fence.wide _ trivial rfl (by omega) Bm b nn D0 _ hB hc ho
 have cS:=AnyZ.sorted_in Tryz.sortedA Fence.wide 5 trivial trivial trivial trivial rfl (by omega) (YtopanhneegpgcaaGreatDoor.sortsA _) (enters_of Tryz.func102 (by kernel_rfl) rfl) 215 #[.pointer (some ⟨Bm,0,none⟩)] trivial (enters_of Tryz.func215 (by kernel_rfl) rfl) _ _ hmax hb _ hseq;exact(callsIn_wide (n:=5)).1 cS
theorem YtopanhneegpgcaaGreatDoor.sorted260K(Bm b nn:Nat)(D0:DataW Unit)(w:World)(hB:Bm<w.heap.size)(hc:w.cell? ⟨Bm,0,none⟩=some (.map (some b)))(ho:w.ownsMap aA 9 YtopanhneegpgcaaGreatDoor.Am.anyV b nn D0)(hmax:Maps.size D0<=maxLen)(hb:Maps.size D0*16<=140737488355328):Calls aA 132 #[.func (.func 260) #[] #[.pointer (some ⟨Bm,0,none⟩)]] w fun e w'=>∃(v:Value) (ss:List (List UInt8)),e = .returned v/\ss.Perm (strKeys D0)/\w'.ownsRow w.heap.size 9 1 v ss.length ((ss.mergeSort (fun x y=>decide (x<=y))).map encStr)/\(v = .slice none 0 0↔ss=[])/\Below w.heap.size w w':=by
 have hseq:SeqGives Fence.wide 2 aA 260 #[.pointer (some ⟨Bm,0,none⟩)] encStr (fun ss=>ss.Perm (strKeys D0)) (Maps.size D0) w:=
  AnyZ.keys_gives (ρ:=Tryz.keys196_ren) { Tryz.keys196 with } Fence.wide _ trivial rfl (by omega) Bm b nn D0 _ hB hc ho
 have cS:=AnyZ.sorted_in Tryz.sortedA Fence.wide 5 trivial trivial trivial trivial rfl (by omega) (YtopanhneegpgcaaGreatDoor.sortsA _) (enters_of Tryz.func102 (by kernel_rfl) rfl) 260 #[.pointer (some ⟨Bm,0,none⟩)] trivial (enters_of Tryz.func260 (by kernel_rfl) rfl) _ _ hmax hb _ hseq;exact(callsIn_wide (n:=5)).1 cS
theorem YtopanhneegpgcaaGreatDoor.sorted271K(Bm b nn:Nat)(D0:DataW Unit)(w:World)(hB:Bm<w.heap.size)(hc:w.cell? ⟨Bm,0,none⟩=some (.map (some b)))(ho:w.ownsMap aA 9 YtopanhneegpgcaaGreatDoor.Am.anyV b nn D0)(hmax:Maps.size D0<=maxLen)(hb:Maps.size D0*16<=140737488355328):Calls aA 132 #[.func (.func 271) #[] #[.pointer (some ⟨Bm,0,none⟩)]] w fun e w'=>∃(v:Value) (ss:List (List UInt8)),e = .returned v/\ss.Perm (strKeys D0)/\w'.ownsRow w.heap.size 9 1 v ss.length ((ss.mergeSort (fun x y=>decide (x<=y))).map encStr)/\(v = .slice none 0 0↔ss=[])/\Below w.heap.size w w':=by
 have hseq:SeqGives Fence.wide 2 aA 271 #[.pointer (some ⟨Bm,0,none⟩)] encStr (fun ss=>ss.Perm (strKeys D0)) (Maps.size D0) w:=
  AnyZ.keys_gives (ρ:=Tryz.keys203_ren) { Tryz.keys203 with } Fence.wide _ trivial rfl (by omega) Bm b nn D0 _ hB hc ho
 have cS:=AnyZ.sorted_in Tryz.sortedA Fence.wide 5 trivial trivial trivial trivial rfl (by omega) (YtopanhneegpgcaaGreatDoor.sortsA _) (enters_of Tryz.func102 (by kernel_rfl) rfl) 271 #[.pointer (some ⟨Bm,0,none⟩)] trivial (enters_of Tryz.func271 (by kernel_rfl) rfl) _ _ hmax hb _ hseq;exact(callsIn_wide (n:=5)).1 cS
theorem YtopanhneegpgcaaGreatDoor.sorted272K(Bm b nn:Nat)(D0:DataW Unit)(w:World)(hB:Bm<w.heap.size)(hc:w.cell? ⟨Bm,0,none⟩=some (.map (some b)))(ho:w.ownsMap aA 9 YtopanhneegpgcaaGreatDoor.Am.anyV b nn D0)(hmax:Maps.size D0<=maxLen)(hb:Maps.size D0*16<=140737488355328):Calls aA 132 #[.func (.func 272) #[] #[.pointer (some ⟨Bm,0,none⟩)]] w fun e w'=>∃(v:Value) (ss:List (List UInt8)),e = .returned v/\ss.Perm (strKeys D0)/\w'.ownsRow w.heap.size 9 1 v ss.length ((ss.mergeSort (fun x y=>decide (x<=y))).map encStr)/\(v = .slice none 0 0↔ss=[])/\Below w.heap.size w w':=by
 have hseq:SeqGives Fence.wide 2 aA 272 #[.pointer (some ⟨Bm,0,none⟩)] encStr (fun ss=>ss.Perm (strKeys D0)) (Maps.size D0) w:=
  AnyZ.keys_gives (ρ:=Tryz.keys204_ren) { Tryz.keys204 with } Fence.wide _ trivial rfl (by omega) Bm b nn D0 _ hB hc ho
 have cS:=AnyZ.sorted_in Tryz.sortedA Fence.wide 5 trivial trivial trivial trivial rfl (by omega) (YtopanhneegpgcaaGreatDoor.sortsA _) (enters_of Tryz.func102 (by kernel_rfl) rfl) 272 #[.pointer (some ⟨Bm,0,none⟩)] trivial (enters_of Tryz.func272 (by kernel_rfl) rfl) _ _ hmax hb _ hseq;exact(callsIn_wide (n:=5)).1 cS
theorem YtopanhneegpgcaaGreatDoor.sorted273K(Bm b nn:Nat)(D0:DataW Unit)(w:World)(hB:Bm<w.heap.size)(hc:w.cell? ⟨Bm,0,none⟩=some (.map (some b)))(ho:w.ownsMap aA 9 YtopanhneegpgcaaGreatDoor.Am.anyV b nn D0)(hmax:Maps.size D0<=maxLen)(hb:Maps.size D0*16<=140737488355328):Calls aA 132 #[.func (.func 273) #[] #[.pointer (some ⟨Bm,0,none⟩)]] w fun e w'=>∃(v:Value) (ss:List (List UInt8)),e = .returned v/\ss.Perm (strKeys D0)/\w'.ownsRow w.heap.size 9 1 v ss.length ((ss.mergeSort (fun x y=>decide (x<=y))).map encStr)/\(v = .slice none 0 0↔ss=[])/\Below w.heap.size w w':=by
 have hseq:SeqGives Fence.wide 2 aA 273 #[.pointer (some ⟨Bm,0,none⟩)] encStr (fun ss=>ss.Perm (strKeys D0)) (Maps.size D0) w:=
  AnyZ.keys_gives (ρ:=Tryz.keys205_ren) { Tryz.keys205 with } Fence.wide _ trivial rfl (by omega) Bm b nn D0 _ hB hc ho
 have cS:=AnyZ.sorted_in Tryz.sortedA Fence.wide 5 trivial trivial trivial trivial rfl (by omega) (YtopanhneegpgcaaGreatDoor.sortsA _) (enters_of Tryz.func102 (by kernel_rfl) rfl) 273 #[.pointer (some ⟨Bm,0,none⟩)] trivial (enters_of Tryz.func273 (by kernel_rfl) rfl) _ _ hmax hb _ hseq;exact(callsIn_wide (n:=5)).1 cS
end Go.Proofs
namespace Go.Proofs.YtopanhneegpgcaaGreatDoor.Am
open Go Go.RowKit
def hole:Code->List Bool->Code
 |.seq a b,q::p=>bif q then hole a p else hole b p
 |.cond _ a b,q::p=>bif q then hole a p else hole b p
 |.block _ b,p=>hole b p|.loop b,[]=>b|_,_=>.skip
noncomputable def ctxK{β:Type}(N0 n:Nat)(τ:TE)(Γ:CT)(η:HT):Code->List Bool->(Ex->St->Option β)->Ex->St->Option β
 |.seq a b,q::p,k=>bif q then ctxK N0 n τ Γ η a p (nx k fun σ=>run N0 n τ Γ η b σ k)else ctxK N0 n τ Γ η b p k
 |.cond _ a b,q::p,k=>bif q then ctxK N0 n τ Γ η a p k else ctxK N0 n τ Γ η b p k
 |.block id b,p,k=>ctxK N0 n τ Γ η b p (blk id k)|_,_,k=>k
noncomputable def ztB{β:Type}(N0 n:Nat)(τ:TE)(Γ:CT)(η:HT):Code->List Bool->St->(St->Option β)->(Ex->St->Option β)->Option β
 |.seq a b,q::p,σ,h,k=>bif q then ztB N0 n τ Γ η a p σ h (nx k fun σ=>run N0 n τ Γ η b σ k)else run N0 n τ Γ η a σ (nx k fun σ=>ztB N0 n τ Γ η b p σ h k)
 |.cond c a b,q::p,σ,h,k=>match ev σ c with
  |some (.v .b t)=>bif t then(bif q then ztB N0 n τ Γ η a p σ h k else run N0 n τ Γ η a σ k)else(bif q then run N0 n τ Γ η b σ k else ztB N0 n τ Γ η b p σ h k)|_=>none
 |.block id b,p,σ,h,k=>ztB N0 n τ Γ η b p σ h (blk id k)|.loop _,[],σ,h,_=>h σ|_,_,_,_,_=>none
noncomputable def inK{β:Type}(N0 n:Nat)(τ:TE)(Γ:CT)(η:HT)(b:Code)(σ:St)(ag:St->Option β)(k:Ex->St->Option β):List (Option β):=match b with
 |.seq (.region _ ops false) c=>match ops.toList with
  |⟨some d,.next (.tmp t) false,_,_,_,none⟩::l=>xaB n σ d t fun σ=>steps n τ Γ ops.toList l σ fun σ=>run N0 n τ Γ η c σ (nx k ag)
  |_=>[none]
 |_=>[none]
structure NH where
 p0:List Bool
 mm:List Mk
 s:Shp
 kp:List Nat
 outs:List (Option Nat×Shp)
 p:List Bool
 si:Shp
 kpi:List Nat
noncomputable def nstK(N0 n:Nat)(τ:TE)(_Γ:CT)(η:HT)(H:NH)(_b:Code)(_σ:St):Ex->St->Option ((zfB H.s.tys⊕zfB H.si.tys)⊕DS H.outs):=nx (fun e σ=>mapO Sum.inr (inj N0 H.outs e σ)) fun σ=>mapO (fun y=>Sum.inl (Sum.inl y)) (H.s.get N0 σ)
noncomputable def nstA(N0:Nat)(H:NH)(σ:St):Option ((zfB H.s.tys⊕zfB H.si.tys)⊕DS H.outs):=mapO (fun y=>Sum.inl (Sum.inr y)) (H.si.get N0 σ)
noncomputable def nstF(N0 n:Nat)(τ:TE)(Γ:CT)(η:HT)(H:NH)(b:Code)(σ:St):zfB H.s.tys⊕zfB H.si.tys->List (Option ((zfB H.s.tys⊕zfB H.si.tys)⊕DS H.outs))
 |.inl x=>[ztB N0 n τ Γ η b H.p ((H.s.put x).app (zuP (zfC b) σ H.kp)) (nstA N0 H) (nstK N0 n τ Γ η H b σ)]|.inr y=>inK N0 n τ Γ η (hole b H.p) ((H.si.put y).app (zuP (zfC b) σ H.kpi)) (nstA N0 H) (ctxK N0 n τ Γ η b H.p (nstK N0 n τ Γ η H b σ))
noncomputable def nst{β:Type}(N0 n:Nat)(τ:TE)(Γ:CT)(η:HT)(H:NH)(b:Code)(σ:St)(k:Ex->St->Option β):Option β:=match H.s.get N0 (zvR σ H.mm) with
 |some s0=>Option.bind (rngA (nstF N0 n τ Γ η H b (zvR σ H.mm)) (Sum.inl s0)) fun d=>out (zuP (zfC b) (zvR σ H.mm) H.kp) H.outs d k
 |none=>none
noncomputable def fnN(τ:TE)(Γ:CT)(η:HT)(H:NH)(f:Func)(I:Shp)(outs:List (Option Nat×Shp))(a:zfB I.tys):Option (DS outs):=match f.body with
 |none=>none|some c=>ztB I.hp.length f.ntmps τ Γ η c H.p0 (I.put a) (fun σ=>nst I.hp.length f.ntmps τ Γ η H (hole c H.p0) σ (ctxK I.hp.length f.ntmps τ Γ η c H.p0 (finS τ f I.hp.length outs))) (finS τ f I.hp.length outs)
def ctxQ(P:Program):Code->List Bool->(Exit->Act->World->Prop)->Exit->Act->World->Prop
 |.seq a b,q::p,Q=>bif q then ctxQ P a p (Exit.then (b.wp P Q) Q)else ctxQ P b p Q
 |.cond _ a b,q::p,Q=>bif q then ctxQ P a p Q else ctxQ P b p Q
 |.block id b,p,Q=>ctxQ P b p (Exit.inBlock id Q)|_,_,Q=>Q
section
variable {β:Type}{τ:TE}{Γ:CT}{η:HT}{N0 n:Nat}{P:Program}{B:Bas}{S0:Mem}{E0:List EI}{m0:FM}{D:List Nat}
def OnK(N0 n:Nat)(B:Bas)(S0:Mem)(E0:List EI)(m0:FM)(D:List Nat){β:Type}(k:Ex->St->Option β)(r:β)(Q:Exit->Act->World->Prop):Prop:=
 ∀e σ S E L m w,k e σ=some r->Mem.le S0 S->Pin N0 E0 E->Agr D m0 m->Rel n B S E L σ m w->Q (exQ e) (fr n m) w
theorem OnK.blk{k:Ex->St->Option β}{r:β}{Q:Exit->Act->World->Prop}{id:Nat}(h:OnK N0 n B S0 E0 m0 D k r Q):OnK N0 n B S0 E0 m0 D (blk id k) r (Exit.inBlock id Q):=fun e σ S E L m w hk hS hP hA R=>by
 cases e with
 |normal=>exact h .normal _ _ _ _ _ _ hk hS hP hA R|ret=>exact h .ret _ _ _ _ _ _ hk hS hP hA R|exit i=>
  simp only[Am.blk]at hk;cases hb:aG i id with
  |true=>rw[hb]at hk;have:=Nat.eq_of_beq_eq_true hb;subst this;exact b_hit (h .normal _ _ _ _ _ _ hk hS hP hA R)|false=>rw[hb]at hk;exact yzU hb (h (.exit i) _ _ _ _ _ _ hk hS hP hA R)
theorem OnK.nx{k:Ex->St->Option β}{r:β}{Q:Exit->Act->World->Prop}{g:St->Option β}{N:Act->World->Prop}(h:OnK N0 n B S0 E0 m0 D k r Q)(hn:∀σ S E L m w,g σ=some r->Mem.le S0 S->Pin N0 E0 E->Agr D m0 m->Rel n B S E L σ m w->N (fr n m) w):OnK N0 n B S0 E0 m0 D (nx k g) r (Exit.then N Q):=fun e σ S E L m w hk hS hP hA R=>by
 cases e with
 |normal=>exact hn _ _ _ _ _ _ hk hS hP hA R|ret=>exact h .ret _ _ _ _ _ _ hk hS hP hA R|exit i=>exact h (.exit i) _ _ _ _ _ _ hk hS hP hA R
theorem OnK.run(hm:P.follows .mixedOrders=true)(hτ:TEok P τ)(hΓ:CTok P Γ B){k:Ex->St->Option β}{r:β}{Q:Exit->Act->World->Prop}(h:OnK N0 n B S0 E0 m0 D k r Q){c:Code}(hD:∀t,hasN (zfC c) t=true->hasN D t=true):∀σ S E L m w,run N0 n τ Γ η c σ k=some r->Mem.le S0 S->Pin N0 E0 E->Agr D m0 m->Rel n B S E L σ m w->c.wp P Q (fr n m) w:=fun _σ _S _E _L m _w hr hS hP hA R=>
 zvY hm hτ hΓ c R k r Q hr fun e σ' S' E' L' m' w' h1 h2 h3 h4 R1=>h e σ' S' E' L' m' w' h1 (Mem.le_trans hS h2) (hP.trans h3) (hA.trans (h4.mono hD)) R1
theorem yxJ{a b:List Nat}(h:∀t,hasN (a++b) t=true->hasN D t=true):∀t,hasN a t=true->hasN D t=true:=fun t ht=>h t (by rw[zoK,ht];rfl)
theorem ysN{a b:List Nat}(h:∀t,hasN (a++b) t=true->hasN D t=true):∀t,hasN b t=true->hasN D t=true:=fun t ht=>h t (by rw[zoK,ht,iP])
theorem ybP(hm:P.follows .mixedOrders=true)(hτ:TEok P τ)(hΓ:CTok P Γ B){r:β}:∀(c:Code) (p:List Bool) {k:Ex->St->Option β} {Q:Exit->Act->World->Prop},(∀t,hasN (zfC c) t=true->hasN D t=true)->OnK N0 n B S0 E0 m0 D k r Q->OnK N0 n B S0 E0 m0 D (ctxK N0 n τ Γ η c p k) r (ctxQ P c p Q)
 |.seq a b,true::p,k,Q,hD,h=>ybP hm hτ hΓ a p (yxJ hD) (h.nx (h.run hm hτ hΓ (ysN hD)))|.seq a b,false::p,k,Q,hD,h=>ybP hm hτ hΓ b p (ysN hD) h|.cond _ a b,true::p,k,Q,hD,h=>ybP hm hτ hΓ a p (yxJ hD) h|.cond _ a b,false::p,k,Q,hD,h=>ybP hm hτ hΓ b p (ysN hD) h|.block id b,p,k,Q,hD,h=>by unfold ctxK ctxQ;exact ybP hm hτ hΓ b p hD h.blk
 |.seq _ _,[],_,_,_,h=>h|.cond _ _ _,[],_,_,_,h=>h|.loop _,_,_,_,_,h=>by unfold ctxK ctxQ;exact h
 |.region _ _ _,_,_,_,_,h=>by unfold ctxK ctxQ;exact h
 |.skip,_,_,_,_,h=>by unfold ctxK ctxQ;exact h
 |.exit _,_,_,_,_,h=>by unfold ctxK ctxQ;exact h
 |.ret,_,_,_,_,h=>by unfold ctxK ctxQ;exact h
 |.rangeFunc _ _ _ _,_,_,_,_,h=>by unfold ctxK ctxQ;exact h
 |.scope _,_,_,_,_,h=>by unfold ctxK ctxQ;exact h
 |.label _,_,_,_,_,h=>by unfold ctxK ctxQ;exact h
 |.goto _,_,_,_,_,h=>by unfold ctxK ctxQ;exact h
 |.refuse _,_,_,_,_,h=>by unfold ctxK ctxQ;exact h
theorem zxB(hm:P.follows .mixedOrders=true)(hτ:TEok P τ)(hΓ:CTok P Γ B){r:β}{h:St->Option β}:∀(c:Code) (p:List Bool) {k:Ex->St->Option β} {Q:Exit->Act->World->Prop},(∀t,hasN (zfC c) t=true->hasN D t=true)->OnK N0 n B S0 E0 m0 D k r Q ->(∀σ S E L m w,h σ=some r->Mem.le S0 S->Pin N0 E0 E->Agr D m0 m->Rel n B S E L σ m w->(Code.loop (hole c p)).wp P (ctxQ P c p Q) (fr n m) w) ->∀σ S E L m w,ztB N0 n τ Γ η c p σ h k=some r->Mem.le S0 S->Pin N0 E0 E->Agr D m0 m->Rel n B S E L σ m w->c.wp P Q (fr n m) w
 |.seq a b,true::p,k,Q,hD,hk,hh,σ,S,E,L,m,w,hr,hS,hP,hA,R=>wp_seq (zxB hm hτ hΓ a p (yxJ hD) (hk.nx (hk.run hm hτ hΓ (ysN hD))) hh σ S E L m w hr hS hP hA R)|.seq a b,false::p,k,Q,hD,hk,hh,σ,S,E,L,m,w,hr,hS,hP,hA,R=>
  wp_seq (OnK.run hm hτ hΓ (hk.nx (zxB hm hτ hΓ b p (ysN hD) hk hh)) (yxJ hD) σ S E L m w hr hS hP hA R)
 |.cond c a b,q::p,k,Q,hD,hk,hh,σ,S,E,L,m,w,hr,hS,hP,hA,R=>by
  simp only[ztB]at hr;split at hr
  ·rename_i t hc;have hv:evO n m c = .bool t:=vB (zcT R hc);refine yrO hv (fun ht=>?_) (fun ht=>?_)
   ·subst ht;cases q with
    |true=>exact zxB hm hτ hΓ a p (yxJ hD) hk hh σ S E L m w hr hS hP hA R|false=>exact hk.run hm hτ hΓ (yxJ hD) σ S E L m w hr hS hP hA R
   ·subst ht;cases q with
    |true=>exact hk.run hm hτ hΓ (ysN hD) σ S E L m w hr hS hP hA R|false=>exact zxB hm hτ hΓ b p (ysN hD) hk hh σ S E L m w hr hS hP hA R
  ·cases hr
 |.block id b,p,k,Q,hD,hk,hh,σ,S,E,L,m,w,hr,hS,hP,hA,R=>by unfold ztB at hr;refine wp_block (zxB hm hτ hΓ b p hD hk.blk (fun σ S E L m w h1 h2 h3 h4 h5=>?_) σ S E L m w hr hS hP hA R);have:=hh σ S E L m w h1 h2 h3 h4 h5;unfold hole ctxQ at this;exact this
 |.loop b,[],k,Q,hD,hk,hh,σ,S,E,L,m,w,hr,hS,hP,hA,R=>hh σ S E L m w hr hS hP hA R|.loop b,_::_,k,Q,hD,hk,hh,σ,S,E,L,m,w,hr,hS,hP,hA,R=>by unfold ztB at hr;cases hr
 |.seq _ _,[],_,_,_,_,_,_,_,_,_,_,_,hr,_,_,_,_=>by unfold ztB at hr;cases hr
 |.cond _ _ _,[],_,_,_,_,_,_,_,_,_,_,_,hr,_,_,_,_=>by unfold ztB at hr;cases hr
 |.region _ _ _,_,_,_,_,_,_,_,_,_,_,_,_,hr,_,_,_,_=>by unfold ztB at hr;cases hr
 |.skip,_,_,_,_,_,_,_,_,_,_,_,_,hr,_,_,_,_=>by unfold ztB at hr;cases hr
 |.exit _,_,_,_,_,_,_,_,_,_,_,_,_,hr,_,_,_,_=>by unfold ztB at hr;cases hr
 |.ret,_,_,_,_,_,_,_,_,_,_,_,_,hr,_,_,_,_=>by unfold ztB at hr;cases hr
 |.rangeFunc _ _ _ _,_,_,_,_,_,_,_,_,_,_,_,_,hr,_,_,_,_=>by unfold ztB at hr;cases hr
 |.scope _,_,_,_,_,_,_,_,_,_,_,_,_,hr,_,_,_,_=>by unfold ztB at hr;cases hr
 |.label _,_,_,_,_,_,_,_,_,_,_,_,_,hr,_,_,_,_=>by unfold ztB at hr;cases hr
 |.goto _,_,_,_,_,_,_,_,_,_,_,_,_,hr,_,_,_,_=>by unfold ztB at hr;cases hr
 |.refuse _,_,_,_,_,_,_,_,_,_,_,_,_,hr,_,_,_,_=>by unfold ztB at hr;cases hr
theorem yhM:∀(c:Code) (p:List Bool) (t:Nat),hasN (zfC (hole c p)) t=true->hasN (zfC c) t=true
 |.seq a b,true::p,t,h=>by show hasN (zfC a++zfC b) t=true;rw[zoK,yhM a p t h];rfl
 |.seq a b,false::p,t,h=>by show hasN (zfC a++zfC b) t=true;rw[zoK,yhM b p t h,iP]
 |.cond _ a b,true::p,t,h=>by show hasN (zfC a++zfC b) t=true;rw[zoK,yhM a p t h];rfl
 |.cond _ a b,false::p,t,h=>by show hasN (zfC a++zfC b) t=true;rw[zoK,yhM b p t h,iP]
 |.block _ b,p,t,h=>yhM b p t (by unfold hole at h;exact h)|.loop _,[],_,h=>h|.loop _,_::_,_,h=>by cases h
 |.seq _ _,[],_,h=>by cases h
 |.cond _ _ _,[],_,h=>by cases h
 |.region _ _ _,_,_,h=>by unfold hole at h;cases h
 |.skip,_,_,h=>by unfold hole at h;cases h
 |.exit _,_,_,h=>by unfold hole at h;cases h
 |.ret,_,_,h=>by unfold hole at h;cases h
 |.rangeFunc _ _ _ _,_,_,h=>by unfold hole at h;cases h
 |.scope _,_,_,h=>by unfold hole at h;cases h
 |.label _,_,_,h=>by unfold hole at h;cases h
 |.goto _,_,_,h=>by unfold hole at h;cases h
 |.refuse _,_,_,h=>by unfold hole at h;cases h
theorem inK_ok(hm:P.follows .mixedOrders=true)(hτ:TEok P τ)(hΓ:CTok P Γ B){bi:Code}{σ:St}{S:Mem}{E:List EI}{L:List Res}{m:FM}{w:World}{ag:St->Option β}{k:Ex->St->Option β}{Z:Option β->Prop}{Q:Exit->Act->World->Prop}{Nx:Act->World->Prop}(R:Rel n B S E L σ m w)(hS:Mem.le S0 S)(hP:Pin N0 E0 E)(hA:Agr D m0 m)(hD:∀t,hasN (zfC bi) t=true->hasN D t=true)(hz0:¬Z none)(hz:∀o∈inK N0 n τ Γ η bi σ ag k,Z o) (hk:∀y,Z (some y)->OnK N0 n B S0 E0 m0 D k y Q) (ha:∀y,Z (some y)->∀σ S E L m w,ag σ=some y->Mem.le S0 S->Pin N0 E0 E->Agr D m0 m->Rel n B S E L σ m w->Nx (fr n m) w):bi.wp P (Exit.then Nx Q) (fr n m) w:=by
 unfold inK at hz;split at hz
 ·rename_i id ops c;split at hz
  ·rename_i d t ty pos aft l hops;have hDl:∀t',hasN (zuE (⟨some d,.next (.tmp t) false,ty,pos,aft,none⟩::l)) t'=true->hasN D t'=true:=fun t' ht'=>hD t' (by show hasN (zuE ops.toList++zfC c) t'=true;rw[zoK,hops,ht'];rfl);have hDc:∀t',hasN (zfC c) t'=true->hasN D t'=true:=fun t' ht'=>hD t' (by show hasN (zuE ops.toList++zfC c) t'=true;rw[zoK,ht',iP]);obtain⟨ops⟩:=ops;have hops:ops=_:=hops;subst hops;refine wp_seq (wp_region_lit (wl_do (ztX rfl) (yzE R hz0 hz) ?_));rintro v w' ⟨σ1,L3,hy,R3⟩;generalize hyo:(steps n τ Γ _ l σ1 fun σ=>run N0 n τ Γ η c σ (nx k ag))=o at hy
   match o,hy with
   |none,hy=>exact absurd hy hz0|some y,hy=>rw[yfA];refine ycM hτ hΓ (D:=D) (S0:=S) (E0:=E) (m0:=m) (fun σ' S' E' L' m' w' h5 hS3 hE3 hA3 R4=>?_) l (fun t' ht'=>hDl t' (yeA ht')) (Mem.le_refl _) (ELe.refl _) (Agr.put (hDl d (yeE rfl))) R3 hyo;exact OnK.run hm hτ hΓ ((hk y hy).nx (ha y hy)) hDc σ' S' E' L' m' w' h5 (Mem.le_trans hS hS3) (hP.trans (Pin.of hE3)) (hA.trans hA3) R4
  ·exact absurd (hz _ aM) hz0
 ·exact absurd (hz _ aM) hz0
theorem nst_ok(hm:P.follows .mixedOrders=true)(hτ:TEok P τ)(hΓ:CTok P Γ B){H:NH}{b:Code}{σ:St}{S:Mem}{E:List EI}{L:List Res}{m:FM}{w:World}(R:Rel n B S E L σ m w){k:Ex->St->Option β}{r:β}{Q:Exit->Act->World->Prop}(hr:nst N0 n τ Γ η H b σ k=some r)(hS:Mem.le S0 S)(hP:Pin N0 E0 E)(hA:Agr D m0 m)(hD:∀t,hasN (zfC b) t=true->hasN D t=true)(hQ:OnK N0 n B S0 E0 m0 D k r Q):(Code.loop b).wp P Q (fr n m) w:=by
 unfold nst at hr;split at hr
 ·rename_i s0 hs0;obtain⟨dd,h1,h2⟩:=zrU hr;obtain⟨fuel,hrng⟩:=ypT h1;obtain⟨S1,E1,L1,hS1,hE1,R1⟩:=yaO H.mm R;obtain⟨S2,E2,L2,hS2,hP2,R2⟩:=ybJ R1 (fun l=>zlN l R1) hs0;have hQ1:OnK N0 n B S1 E1 m (zfC b) k r Q:=fun e σ' S' E' L' m' w' h1 h2 h3 h4 h5=>hQ e σ' S' E' L' m' w' h1 (Mem.le_trans hS (Mem.le_trans hS1 h2)) (hP.trans ((Pin.of hE1).trans h3)) (hA.trans (h4.mono hD)) h5;clear hQ hS hP hA hS1 hE1 R;generalize zvR σ H.mm=σ1 at *;refine xdA (fun g a w=>∃m' x S' E' L',a=fr n m'/\Mem.le S1 S'/\Pin N0 E1 E'/\Agr (zfC b) m m'/\Rel n B S' E' L' (H.s.put x) m' w/\Rng (nstF N0 n τ Γ η H b σ1) g (Sum.inl x) dd) fuel ⟨m,s0,S2,E2,L2,rfl,hS2,hP2,Agr.refl _ _,R2,hrng⟩ ?_;rintro g a w ⟨m2,x,S3,E3,L3,rfl,hS3,hP3,hA3,R3,hit⟩;cases g with
  |zero=>exact hit.elim|succ g=>
   have kk:∀g',g'<=g->∀y,rngO (fun s'=>Rng (nstF N0 n τ Γ η H b σ1) g' s' dd) dd (some y)->OnK N0 n B S1 E1 m (zfC b) (nstK N0 n τ Γ η H b σ1) y (Exit.then (fun a' w'=>∃g',g'<g+1/\∃m' x S' E' L',a'=fr n m'/\Mem.le S1 S'/\Pin N0 E1 E'/\Agr (zfC b) m m'/\Rel n B S' E' L' (H.s.put x) m' w'/\Rng (nstF N0 n τ Γ η H b σ1) g' (Sum.inl x) dd) Q):=by
    intro g' hg' y hy e σ' S' E' L' m' w' hk hS' hP' hA' R';have fin:∀e',mapO Sum.inr (inj N0 H.outs e' σ')=some y->Q (exQ e') (fr n m') w':=fun e' h5=>by obtain⟨d',h6,rfl⟩:=zoJ h5;have h7:d'=dd:=hy;subst h7;obtain⟨S4,E4,L4,σ4,hS4,hP4,R4,_,_,h8⟩:=ybU R' (kp:=zuP (zfC b) σ1 H.kp) (fun S'' E'' hS'' t=>ztV R1 (Mem.le_trans hS' hS'') hA' H.kp t) h6;rw[h8]at h2;exact hQ1 e' σ4 _ _ _ _ _ h2 (Mem.le_trans hS' hS4) (hP'.trans hP4) hA' R4
    cases e with
    |normal=>obtain⟨x',h6,rfl⟩:=zoJ hk;obtain⟨S4,E4,L4,hS4,hP4,R4⟩:=ybJ R' (fun l=>zlN l R') h6;exact⟨g',Nat.lt_succ_of_le hg',m',x',S4,E4,L4,rfl,Mem.le_trans hS' hS4,hP'.trans hP4,hA',R4,hy⟩
    |exit i=>exact fin (.exit i) hk|ret=>exact fin .ret hk
   have h0:=hit _ (aT.2 rfl);generalize hyo:ztB N0 n τ Γ η b H.p ((H.s.put x).app (zuP (zfC b) σ1 H.kp)) (nstA N0 H) (nstK N0 n τ Γ η H b σ1)=o at h0
   match o,h0 with
   |some y,hy=>
    refine zxB hm hτ hΓ b H.p (fun _ h=>h) (kk g (aI g) y hy) (fun σ4 S4 E4 L4 m4 w4 ha hS4 hP4 hA4 R4=>?_) _ S3 E3 L3 m2 w hyo hS3 hP3 hA3 (R3.app (ztV R1 hS3 hA3 H.kp));obtain⟨y0,h6,rfl⟩:=zoJ ha;obtain⟨S5,E5,L5,hS5,hP5,R5⟩:=ybJ R4 (fun l=>zlN l R4) h6;refine xdA (fun g2 a w=>g2<=g/\∃m' y S' E' L',a=fr n m'/\Mem.le S1 S'/\Pin N0 E1 E'/\Agr (zfC b) m m'/\Rel n B S' E' L' (H.si.put y) m' w/\Rng (nstF N0 n τ Γ η H b σ1) g2 (Sum.inr y) dd) g ⟨aI g,m4,y0,S5,E5,L5,rfl,Mem.le_trans hS4 hS5,hP4.trans hP5,hA4,R5,hy⟩ ?_;rintro g2 a w' ⟨hg2,m5,y1,S6,E6,L6,rfl,hS6,hP6,hA6,R6,hit2⟩;cases g2 with
    |zero=>exact hit2.elim|succ g2=>
     exact inK_ok hm hτ hΓ (R6.app (ztV R1 hS6 hA6 H.kpi)) hS6 hP6 hA6 (fun t h=>yhM b H.p t h) (Z:=rngO (fun s'=>Rng (nstF N0 n τ Γ η H b σ1) g2 s' dd) dd) (fun h=>h) hit2 (fun y hy=>ybP hm hτ hΓ b H.p (fun _ h=>h) (kk g2 (by omega) y hy)) (fun y hy σ7 S7 E7 L7 m7 w7 hg hS7 hP7 hA7 R7=>by
      obtain⟨y',h6,rfl⟩:=zoJ hg;obtain⟨S8,E8,L8,hS8,hP8,R8⟩:=ybJ R7 (fun l=>zlN l R7) h6
      exact⟨g2,Nat.lt_succ_self g2,by omega,m7,y',S8,E8,L8,rfl,Mem.le_trans hS7 hS8,hP7.trans hP8,hA7,R8,hy⟩)
 ·cases hr
theorem fnN_ok{G:List (Nat×Obj)}{f:FuncId}{fn:Func}{I:Shp}{nr:Nat}{outs:List (Option Nat×Shp)}{H:NH}(hm:P.follows .mixedOrders=true)(hτ:TEok P τ)(hΓ:∀B,GB G B->CTok P Γ B)(hf:P.funcs[f]? = some fn)(hfn:IsFn P f)(hl:Nat.ble I.sl.length fn.ntmps=true)(hr:aG fn.results.toList.length nr=true):SCok P G f ⟨I,nr,outs,fnN τ Γ η H fn I outs⟩:=by
 refine⟨hfn,fun S0 w0 us E0 L0 a d hG hul R hy=>?_⟩;have hy:fnN τ Γ η H fn I outs a=some d:=hy;have hul:us.length=I.sl.length:=hul;unfold fnN at hy;split at hy
 ·cases hy
 ·rename_i c hb;have hC:=hΓ _ (gb_in hG R.hs);refine yuR (rn:=fun k=>ztB I.hp.length fn.ntmps τ Γ η c H.p0 (I.put a) (fun σ=>nst I.hp.length fn.ntmps τ Γ η H (hole c H.p0) σ (ctxK I.hp.length fn.ntmps τ Γ η c H.p0 k)) k) hτ hf hb (by rw[hul];exact Nat.le_of_ble_eq_true hl) hr R (fun R1 k r Q hr hQ=>?_) hy;exact zxB hm hτ hC c H.p0 (D:=zfC c) (fun _ h=>h) hQ (fun σ S E L m w h1 h2 h3 h4 R2=>nst_ok hm hτ hC R2 h1 h2 h3 h4 (fun t h=>yhM c H.p0 t h) (ybP hm hτ hC c H.p0 (fun _ h=>h) hQ)) _ _ _ _ _ _ hr (Mem.le_refl _) (Pin.refl _ _) (Agr.refl _ _) R1
theorem fn_nc{G:List (Nat×Obj)}{f:FuncId}{fn:Func}{c:SC}(H:NH)(hm:P.follows .mixedOrders=true)(hτ:TEok P τ)(hΓ:∀B,GB G B->CTok P Γ B)(hf:P.funcs[f]? = some fn)(hfn:IsFn P f)(hl:Nat.ble c.I.sl.length fn.ntmps=true)(hr:aG fn.results.toList.length c.nr=true)(he:fnN τ Γ η H fn c.I c.outs=c.p):SCok P G f c:=by have h:=fnN_ok (η:=η) (outs:=c.outs) (H:=H) hm hτ hΓ hf hfn hl hr;rw[he]at h;exact h
end
section
variable {P:Program}{G:List (Nat×Obj)}
def ysM(e:Ty)(n:Int):Option (List (den e)):=bif decide (0<=n)&&decide (n<=1048576)then some []else none
theorem grow0_sc{f:FuncId}{e:Ty}{E:TypeId}(hfn:IsFn P f) (hc:∀(n:Nat) (w:World),n<=1048576->Calls P f #[.slice none 0 0,.int .i64 (n:Int)] w fun x w'=>∃v,x = .returned v/\((v = .slice none 0 0/\w'=w)∨∃cap arr,v = .slice (some ⟨w.heap.size,0,none⟩) 0 cap/\w'=w.drew.alloc (.cells arr E)/\cap*tsz e<=arr.size)):
  SCok P G f ⟨⟨[(0,.nils),(1,.h (.i .i64))],[]⟩,1,[(none,⟨[(0,.own 0)],[.osl e E]⟩)],fun(n:Int)=>ysM e n⟩:=by
 obtain⟨q,hq⟩:=zhB e;have e0:∀y:den (.sl e),ziJ [.osl e E] [.v (.sl e) y]=[.osl 0 e E y]:=fun y=>by rw[ziJ,hq];rfl
 refine⟨hfn,fun S0 w0 us E0 L0 (x:Int) (d:List (den e)) _ hul R hy=>?_⟩;have hy:ysM e x=some d:=hy;unfold ysM at hy;obtain⟨hb,hy⟩:=zaG hy;cases hy;simp only[aF,zD]at hb;obtain⟨n,rfl⟩:=Int.eq_ofNat_of_zero_le hb.1;have hul:us.length=2:=hul;obtain⟨u,u2,rfl⟩:∃u u2,us=[u,u2]:=by
  match us,hul with
  |[u,u2],_=>exact⟨u,u2,rfl⟩
 have hu:u = .slice none 0 0:=R.sl 0;have hu2:rep (.i .i64) S0 [u2] (n:Int):=R.sl 1;have hu2:u2 = .int .i64 (n:Int):=by have h:[u2]=[Value.int .i64 (n:Int)]:=hu2;injection h
 subst hu;subst hu2;have hL:L0=[]:=aS R.lL;have hE:E0=[]:=aS R.lE;subst hL;subst hE
 have fin:∀{v:Value} {w':World} {q:Res},HS ⟨S0,zcD [],w0⟩ S0 w' [q]->(∃cs rs,q = .osl v 0 (tsz e) cs rs E/\cs=[])->v.oneCell'=true->∃v',Ending.returned v = .returned v'/\∃S' E' L' σo V',(∀{γ:Type} (k:Ex->St->Option γ),out [] [(none,(⟨[(0,.own 0)],[.osl e E]⟩:Shp))] ([]:List (den e)) k=k .normal σo)/\Mem.le S0 S'/\Pin 0 [] E'/\RelV ⟨S0,zcD [],w0⟩ S' E' L' σo V' w'/\Ver0 σo.hp/\0<=σo.hp.length/\v'=zzR (zyD V' 0 1):=fun {v w' q} H hq0 h1=>by
  obtain⟨cs,rs,rfl,rfl⟩:=hq0;refine⟨v,rfl,S0,[.osl 0 v (tsz e)],[.osl v 0 (tsz e) [] rs E],⟨[(0,.own 0 0)],[.osl 0 e E []]⟩,fun _=>v,fun k=>?_,Mem.le_refl _,fun k e hk=>absurd hk (Nat.not_lt_zero k),⟨H,rfl,rfl,fun i o h=>?_,fun t=>?_⟩,?_,aZ _,rfl⟩
  ·show k (exOf none) ((Shp.put _ _).app [])=_;rw[show(Shp.put (⟨[(0,.own 0)],[.osl e E]⟩:Shp) ([]:List (den e)))=⟨[(0,.own 0 0)],[.osl 0 e E []]⟩from congrArg (fun hp=>(⟨[(0,.own 0 0)],hp⟩:St)) (e0 _)];rfl
  ·cases i with
   |zero=>cases h;exact⟨_,_,rfl,rfl,v,v,[],rs,rfl,rfl,rfl,.inl rfl⟩
   |succ i=>simp at h
  ·cases t with
   |zero=>exact VR.ofC (show VC S0 _ (.own 0 0) v from⟨h1,_,rfl,fun r v' s he=>by cases he;exact⟨aI 0,fun _=>rfl⟩⟩)|succ t=>trivial
  ·intro i ver e' T' xs' hi;cases i with
   |zero=>cases hi;rfl
   |succ i=>simp at hi
 refine(hc n w0 (by have:=hb.2;omega)).mono ?_;rintro x w' ⟨v,rfl,⟨rfl,rfl⟩|⟨cap,arr,rfl,rfl,hcap⟩⟩
 ·exact fin (HS.nil R.hs _ _) ⟨[],[],rfl,rfl⟩ rfl
 ·refine fin (R.hs.push (Ext.trans (Ext.drew w0) (Ext.alloc w0.drew _)) (r:=.osl (sl w0.heap.size 0 0 cap) 0 (tsz e) [] arr.toList E) (.inr ⟨w0.heap.size,cap,(0,0),rfl,aZ _,by simp,by simpa using hcap,by simpa using zaQ w0.drew _,.inl rfl⟩) fun b hb=>by cases hb;exact aI _) ⟨[],arr.toList,rfl,rfl⟩ rfl
end
end Go.Proofs.YtopanhneegpgcaaGreatDoor.Am
namespace Go.Proofs
open Go.Shelf
def Tryz.growS_ren:Go.Shelf.Ren:=⟨fun|4=>187|n=>n,fun|22=>22|25=>9|3=>3|4=>4|9=>9|20=>20|0=>0|n=>n,fun|n=>n⟩
theorem Tryz.growS:Go.Proofs.Lays8.n4 aA Tryz.growS_ren:={mixed:=by kernel_rfl,f4:=⟨Tryz.f187.name,by decide,kqz Tryz.func187 (by kernel_rfl)⟩,t0:=Tryz.underlying0,a0:=Tryz.isAgg0,z0:=Tryz.sizeOf0,v0:=Tryz.zeroValue0,t3:=Tryz.underlying3,a3:=Tryz.isAgg3,z3:=Tryz.sizeOf3,v3:=Tryz.zeroValue3,t4:=Tryz.underlying4,a4:=Tryz.isAgg4,z4:=Tryz.sizeOf4,v4:=Tryz.zeroValue4,t9:=Tryz.underlying9,a9:=Tryz.isAgg9,z9:=Tryz.sizeOf9,v9:=Tryz.zeroValue9,t20:=Tryz.underlying20,a20:=Tryz.isAgg20,z20:=Tryz.sizeOf20,v20:=Tryz.zeroValue20,t22:=Tryz.underlying22,a22:=Tryz.isAgg22,z22:=Tryz.sizeOf22,v22:=Tryz.zeroValue22 }
end Go.Proofs
namespace Go.Proofs.YtopanhneegpgcaaGreatDoor.Am
open Go Go.RowKit
theorem growK(n:Nat)(w:World)(hn:n<=1048576):Calls aA 187 #[.slice none 0 0,.int .i64 (n:Int)] w fun x w'=>∃v,x = .returned v/\((v = .slice none 0 0/\w'=w)∨∃cap arr,v = .slice (some ⟨w.heap.size,0,none⟩) 0 cap/\w'=w.drew.alloc (.cells arr 9)/\cap*tsz .s<=arr.size):=by
 obtain⟨i0,hi,hz,hs,hb⟩:=(yrP (P:=aA) (τ:=[(9,⟨.s,1,[.v .s (show Bs from [])],.s,16⟩)]) (by kernel_rfl) (by kernel_rfl) 9 _ rfl).i;have hs:i0.size=1:=hs;have hb:i0.bytes=16:=hb;rcases Nat.eq_zero_or_pos n with rfl|h0
 ·refine(Any8.slices_Grow_room Tryz.growS none 0 0 0 w (by omega) (by omega) (by omega) (by omega)).mono ?_;rintro _ _ ⟨rfl,rfl⟩;exact⟨_,rfl,.inl ⟨rfl,rfl⟩⟩
 ·refine(Any8.slices_Grow_grow Tryz.growS i0 _ hi hz (by omega) none 0 0 n [] w (by omega) (by omega) (by rw[hb];omega) (by omega) (by simp) (fun _=>rfl) (fun a h=>by cases h)).mono ?_;rintro _ _ ⟨rfl,rfl⟩;refine⟨_,rfl,.inr ⟨_,_,rfl,rfl,?_⟩⟩;have hge:=grownCap_ge w (0+n) 0 9;simp only[Array.size_append,size_zeroCells,dS,cC];have h1:(Value.cells (zV (⟨.s,1,[.v .s (show Bs from [])],.s,16⟩:TI))).size=1:=rfl;rw[h1];show _*1<=_;have h2:grownCap w (0+n) 0 9=grownCap w (0+n) 0 (Tryz.growS_ren.t 25):=rfl;rw[<-h2];omega
end Go.Proofs.YtopanhneegpgcaaGreatDoor.Am
namespace Go.Proofs.YtopanhneegpgcaaGreatDoor.Am
open Go Go.Proofs Go.RowKit Go.Sort Go.Shelf
attribute [local go_sem] Oper.semAt_some
section
variable {F:Fence}{n:Nat}{P:Program}(w:World){ops:Array Oper}{rest:List Oper}{o:Oper}{a:Act}{Q:Exit->Act->World->Prop}
theorem yrQ(hg:o.guard=none)(m:Operand)(t k e:TypeId)(hop:o.op=Op.range t m)(ht:P.underlying t=some (.map k e))(b ck:Nat)(es:Array MapEntry)(hm:a.eval m = .map (some b))(hb:w.heap[b]? = some (.map es ck)) (hK:wpListIn F n P ops Q rest (a.put o.dst (.pointer (some ⟨w.heap.size,0,none⟩))) (w.alloc (.mapIter (some b) ck #[] ck))):wpListIn F n P ops Q (o::rest) a w:=by refine wpListIn_plain hg fun K' hK'=>?_;have hrun:=run_range_map (P:=P) w t k e b es ck ht hb;unfold Oper.wpIn;refine⟨by simp[Oper.about,hop],?_⟩;rw[Oper.semAt_plain F _ _ (by rw[hop];intro c hc';cases hc')];simp[execOp,hop,hm,hrun,Result.andThen];exact hK' _ _ hK
theorem yxD(hg:o.guard=none)(it:Operand)(hop:o.op=Op.next it false)(b r ck:Nat)(es:List MapEntry)(seen:Array Nat) (hit:a.eval it = .pointer (some ⟨r,0,none⟩)) (hr:w.heap[r]? = some (.mapIter (some b) ck seen ck)) (hb:w.heap[b]? = some (.map es.toArray ck)) (hold:∀x∈es,x.born<ck) (hnd:(es.map (·.born)).Nodup) (hDone:(∀e∈es,e.born∈seen.toList)->wpListIn F n P ops Q rest (a.put o.dst (.tuple #[.bool false])) w) (hMore:∀(e:MapEntry) (w':World),e∈es->e.born∉seen.toList->w.grownBy w' (some r)->w'.heap[r]? = some (.mapIter (some b) ck (seen.push e.born) ck)->w'.heap[b]? = some (.map es.toArray ck)->(Instr.entry (.pointer (some ⟨r,0,none⟩))).run P w' = .ok (.tuple #[e.key,e.val]) w'->wpListIn F n P ops Q rest (a.put o.dst (.tuple #[.bool true,e.key,e.val])) w'):
  wpListIn F n P ops Q (o::rest) a w:=by
 refine wpListIn_plain hg fun K' hK'=>?_;unfold Oper.wpIn;refine⟨by simp[Oper.about,hop],?_⟩;rw[Oper.semAt_plain F _ _ (by rw[hop];intro c hc';cases hc')];have hl:∀e,e∈(leftOf es.toArray seen).toList↔e∈es/\e.born∉seen.toList:=fun e=>by simp[leftOf]
 rcases run_next_at (P:=P) w o.type r b ck ck seen es.toArray ck hr hb (by simpa using hold) (aI _)with⟨h0,hrun⟩|⟨e,he,w1,h1,hrun⟩
 ·simp[execOp,hop,hit,hrun,Result.andThen];refine hK' _ _ (hDone fun e he=>Classical.byContradiction fun hn=>?_);have:=(hl e).2 ⟨he,hn⟩;rw[Array.eq_empty_of_size_eq_zero h0]at this;simp at this
 ·simp[execOp,hop,hit,hrun,Result.andThen];have h2:=(hl e).1 he;have hrb:b≠r:=fun e=>by subst e;rw[hr]at hb;cases hb
  have hrl:r<w.heap.size:=(aP.1 hr).1;have hw1:w1.heap=w.heap/\w1.os=w.os/\w1.tape=w.tape/\w1.output=w.output:=by rcases h1 with rfl|rfl<;>exact⟨rfl,rfl,rfl,rfl⟩
  have e1:(ChangeMaps.setBlock w1 r (.mapIter (some b) ck (seen.push e.born) ck)).heap[r]? = some (.mapIter (some b) ck (seen.push e.born) ck):=by show(w1.heap.setIfInBounds r _)[r]? = _;rw[hw1.1,Array.getElem?_setIfInBounds_self_of_lt hrl]
  have e2:(ChangeMaps.setBlock w1 r (.mapIter (some b) ck (seen.push e.born) ck)).heap[b]? = some (.map es.toArray ck):=by show(w1.heap.setIfInBounds r _)[b]? = _;rw[hw1.1,eF (fun e=>hrb e.symm)];exact hb
  refine hK' _ _ (hMore e _ h2.1 h2.2 ⟨hw1.2.1,hw1.2.2.1,hw1.2.2.2,by simp[ChangeMaps.setBlock,hw1.1],fun k hk hne=>?_⟩ e1 e2 (run_entry_at _ r b ck seen es.toArray ck e e1 e2 (by simpa using h2.1) (by simpa using hnd)));show(w1.heap.setIfInBounds r _)[k]? = _;rw[hw1.1,eF (fun e=>hne (by rw[e]))]
end
theorem zjR{α:Type}[DecidableEq α]:∀{l m:List α},l.Nodup->(∀x∈l,x∈m)->l.length<=m.length
 |[],_,_,_=>aZ _|x::l,m,hn,hs=>by have hn:=eB.1 hn;have hx:=hs x aM;have:=zjR (m:=m.erase x) hn.2 fun y hy=>(List.mem_erase_of_ne (fun e=>hn.1 (by rw[<-e];exact hy))).2 (hs y (aL _ hy));rw[List.length_erase_of_mem hx]at this;have hpos:0<m.length:=List.length_pos_of_mem hx;simp only[aN];omega
theorem ykI{α:Type}[DecidableEq α]:∀{l m:List α},l.Nodup->m.Nodup->(∀x,x∈l↔x∈m)->l.Perm m
 |[],m,_,_,h=>by
  cases m with
  |nil=>exact .refl _|cons y m=>exact absurd ((h y).2 aM) (by simp)
 |x::l,m,hn,hm,h=>by
  have hn':=eB.1 hn;have hx:x∈m:=(h x).1 aM;refine(List.Perm.cons x (ykI hn'.2 (hm.erase x) fun y=>?_)).trans (List.perm_cons_erase hx).symm;rw[hm.mem_erase_iff];constructor
  ·exact fun hy=>⟨fun e=>hn'.1 (by rw[<-e];exact hy),(h y).1 (aL _ hy)⟩
  ·rintro⟨h1,h2⟩;exact(aK.1 ((h y).2 h2)).resolve_left h1
abbrev encM(x:Bs×Bs):Value:=.agg #[str x.1,str x.2]
def itLeft(r n:Nat)(W:World):Nat:=match W.heap[r]? with
 |some (.mapIter _ _ seen _)=>n-seen.size|_=>0
structure Came (es vis:List MapEntry) (ss:List (Bs×Bs)):Prop where
 nd:(vis.map (·.born)).Nodup
 sub:∀e∈vis,e∈es
 keys:ss.map encM=vis.map (·.key)
theorem Came.len{es vis:List MapEntry}{ss:List (Bs×Bs)}(h:Came es vis ss):ss.length=vis.length:=by simpa using congrArg dO h.keys
theorem Came.lt{es vis:List MapEntry}{ss:List (Bs×Bs)}(h:Came es vis ss){e:MapEntry}(he:e∈es)(hn:e.born∉vis.map (·.born)):vis.length<es.length:=by
 have:=zjR (l:=e.born::vis.map (·.born)) (m:=es.map (·.born)) (eB.2 ⟨hn,h.nd⟩) fun x hx=>by
  rcases aK.1 hx with rfl|hx
  ·exact aR.2 ⟨e,he,rfl⟩
  ·obtain⟨y,hy,rfl⟩:=aR.1 hx;exact aR.2 ⟨y,h.sub y hy,rfl⟩
 simp only[aN,aE]at this;omega
theorem Came.all{es vis:List MapEntry}{ss:List (Bs×Bs)}(h:Came es vis ss)(hnd:(es.map (·.born)).Nodup)(ha:∀e∈es,e.born∈vis.map (·.born)):(ss.map encM).Perm (es.map (·.key)):=by
 rw[h.keys]
 have hb:(vis.map (·.born)).Perm (es.map (·.born)):=ykI h.nd hnd fun x=>by
  constructor
  ·intro hx;obtain⟨y,hy,rfl⟩:=aR.1 hx;exact aR.2 ⟨y,h.sub y hy,rfl⟩
  ·intro hx;obtain⟨y,hy,rfl⟩:=aR.1 hx;exact ha y hy
 have hf:∀e∈es,(es.find? fun x=>x.born==e.born)=some e:=fun e he=>find_born e es hnd he;have e1:∀l:List MapEntry,(∀e∈l,e∈es)->l.map (·.key)=(l.map (·.born)).map fun k=>((es.find? fun x=>x.born==k).map (·.key)).getD undef:=fun l hl=>by rw[dF];refine List.map_congr_left fun e he=>?_;simp only[Function.comp,hf e (hl e he),Option.map_some,Option.getD_some]
 rw[e1 vis h.sub,e1 es fun e he=>he];exact hb.map _
set_option maxRecDepth 100000 in
set_option maxHeartbeats 2000000 in
theorem keysM_in(F:Fence)(n:Nat)(hf:F.fn 211)(hro:F.round=none)(hn:1<=n)(l Bm b ck:Nat)(es:List MapEntry)(J Jx:List (Bs×Bs)->World->Prop)(W:World)(hJ:AbidesFrom W.heap.size J) (hY:∀pre x W1,J pre W1->pre.length<es.length->YieldAt F (n-1) aA l #[encM x] W1 fun e W'=>(e = .returned (.bool true)/\J (pre++[x]) W'/\KeepsWalks W1 W')∨(e = .returned (.bool false)/\Jx (pre++[x]) W')) (hm:W.cell? ⟨Bm,0,none⟩=some (.map (some b))) (hb:W.heap[b]? = some (.map es.toArray ck)) (hold:∀x∈es,x.born<ck) (hnd:(es.map (·.born)).Nodup) (hk:∀e∈es,∃x,e.key=encM x) (h0:J [] W):
  CallsIn F n aA 211 #[.func (.yield l) #[] #[],.pointer (some ⟨Bm,0,none⟩)] W fun e W'=>(∃v,e = .returned v)/\((∃ss:List (Bs×Bs),(ss.map encM).Perm (es.map (·.key))/\J ss W')∨(∃pre,True/\Jx pre W')):=by
 refine callsIn_of_wp Tryz.func211 rfl hf ?_ hro;simp only[Tryz.ntmps211,dS,aN,cC,jB,jC,gT,gU,iJ,iC,bL,bG];have hbl:b<W.heap.size:=(aP.1 hb).1;have hty:Tryz.prog.underlying 126=some (.map 75 157):=by kernel_rfl
 gi_wp2_with (first
  |(gi_at_range;refine yrQ _ rfl _ 126 75 157 rfl hty b ck es.toArray rfl hb ?_)
  |gi_in)
 go_frame
 gi_loopw [3] (fun _ wr=>∃(vis:List MapEntry) (ss:List (Bs×Bs)),wr.heap[W.heap.size]? = some (.mapIter (some b) ck (vis.map (·.born)).toArray ck)/\wr.heap[b]? = some (.map es.toArray ck)/\Came es vis ss/\J ss wr)
  (fun _ wr=>itLeft W.heap.size es.length wr)
 case atStart=>exact⟨[],[],World.alloc_heap_new W _,(Below.heap_alloc W _ b hbl).trans hb,⟨.nil,fun _ h=>(by cases h),rfl⟩,hJ [] W _ none h0 (World.grownBy_alloc W _ none) (fun r e=>by cases e)⟩
 case round=>
  obtain⟨vis,ss,h1,h2,hC,hJs⟩:=hrel
  gi_wp2_with (first
   |(gi_at_next;refine yxD _ rfl _ rfl b W.heap.size ck es _ rfl h1 h2 hold hnd ?_ ?_)
   |gi_in)
  ·intro hall
   gi_wp2
   go_end0
   exact⟨⟨_,rfl⟩,.inl ⟨ss,hC.all hnd (by simpa using hall),hJs⟩⟩
  ·intro e w2 he hns hg2 h3 h4 hen;have hns:e.born∉vis.map (·.born):=by simpa using hns
   have hJ2:J ss w2:=hJ ss wr w2 (some W.heap.size) hJs hg2 (fun r e=>by cases e;exact⟨aI _,_,h1,rfl⟩);have hlt:=hC.lt he hns;obtain⟨x,hx⟩:=hk e he;rw[hx]at hen ⊢;simp only[encM]at hen ⊢
   gi_wp2
   obtain⟨w3,hw3⟩:∃w3,w2.alloc (.cells #[.string ⟨x.1.toArray⟩,.string ⟨x.2.toArray⟩] 75)=w3:=⟨_,rfl⟩;have hg3:w2.grownBy w3 none:=by rw[<-hw3];exact World.grownBy_alloc w2 _ none
   have hJ3:J ss w3:=hJ ss w2 w3 none hJ2 hg3 (fun r e=>by cases e);have h3:=(hg3.block _ (aP.1 h3).1 (by simp)).trans h3;have h4:=(hg3.block _ (aP.1 h4).1 (by simp)).trans h4;rw[hw3];clear hw3;obtain⟨fn,tmps,assign,body,hy,hR⟩:=hY ss x w3 hJ3 (by rw[hC.len];exact hlt);have hy:(Instr.yield l #[.agg #[.string ⟨x.1.toArray⟩,.string ⟨x.2.toArray⟩]]).run aA w3=_:=hy;rw[hy]
   gi_wp2
   refine hR.mono ?_;rintro e' W3 (⟨rfl,hJ3,hk3⟩|⟨rfl,hJx3⟩)
   ·gi_wp2
    have h5:=hk3.same _ _ h3 rfl;have h6:=hk3.same _ _ h4 rfl
    go_roundw
    case rel=>
     refine⟨vis++[e],ss++[x],?_,h6,⟨?_,fun y hy=>?_,?_⟩,hJ3⟩
     ·rw[h5];simp only[cT,bF,List.map_nil]
     ·rw[cT,List.nodup_append];refine⟨hC.nd,by simp,fun p hp q hq=>?_⟩;have hq:q=e.born:=by simpa using hq
      subst hq;exact fun e'=>hns (by rw[<-e'];exact hp)
     ·rcases List.mem_append.1 hy with hy|hy
      ·exact hC.sub y hy
      ·rw[aT.1 hy];exact he
     ·rw[cT,cT,hC.keys];simp[hx]
    case measure=>unfold itLeft;rw[h5,h1];simp only[dS,aE,aC,aN,cC];omega
   ·gi_wp2
    refine bodyPost_ret (results_none rfl _ _ _) rfl ?_;exact⟨⟨_,rfl⟩,.inr ⟨ss++[x],trivial,hJx3⟩⟩
theorem yrM(F:Fence)(n:Nat)(hf:F.fn 211)(hro:F.round=none)(hn:1<=n)(Bm b ck:Nat)(es:List MapEntry)(w:World)(hB:Bm<w.heap.size) (hm:w.cell? ⟨Bm,0,none⟩=some (.map (some b))) (hb:w.heap[b]? = some (.map es.toArray ck)) (hold:∀x∈es,x.born<ck) (hnd:(es.map (·.born)).Nodup) (hk:∀e∈es,∃x,e.key=encM x):
  SeqStopsK F n aA 211 #[.pointer (some ⟨Bm,0,none⟩)] (fun x=>#[encM x]) KeepsWalks (fun ss=>(ss.map encM).Perm (es.map (·.key))) (fun _=>True) es.length w:=fun l J Jx W hW hJ _ hY h0=>
 keysM_in F n hf hro hn l Bm b ck es J Jx W hJ hY ((hW.cell (p:=⟨Bm,0,none⟩) hB).trans hm) ((hW.block b (aP.1 hb).1).trans hb) hold hnd hk h0
theorem ysJ{P:Program}{F:Fence}{n:Nat}{α:Type}{g:Operand}{ps:Array Tmp}{assign body:Code}{Q:Exit->Act->World->Prop}{a:Act}{w:World}(hro:F.round=none)(h1:1<=n){gf:Nat}{lb:Array Value}(hg:a.eval g = .func (.func gf) #[] lb)(hFg:F.fn gf)(eg:∀args w,(callFunc gf args).run P w = .ok (.enter gf args) w) {encs:α->Array Value} {S:List α->Prop} {N:Nat} (hseq:SeqStopsK F (n-1) P gf lb encs KeepsWalks S (fun _=>True) N w) (hps:∀x,(encs x).size=ps.size) (I:List α->World->Prop) (hI:OwnFrom w.heap.size I) (h0:I [] w) (cel:α->Array Value) (t:TypeId) (a₁:α->Nat->Act) (hassign:∀(l:Nat) (x:α) (W:World) (K:Act->World->Prop),(∀W',W.grownBy W' none->W'.heap[W.heap.size]? = some (.cells (cel x) t (0,0))->K (a₁ x W.heap.size) W') ->
   assign.wpIn (F.inRound l) (n-1-1) P (Exit.then K (fun _ _ _=>False)) { tmps:=(ps.zip (encs x)).foldl (fun t (p,v)=>t.setIfInBounds p v) a.tmps,defers:=[] } W)
  (hbody:∀(l:Nat) (pre:List α) (x:α) (b:Nat) (W:World),I pre W->pre.length<N->W.heap[b]? = some (.cells (cel x) t (0,0))->w.heap.size<=b->body.wpIn (F.inRound l) (n-1-1) P (fun e _ W3=>e = .normal/\KeepsOthers W W3/\KeepsWalks W W3/\I (pre++[x]) W3) (a₁ x b) W)
  (hdone:∀(D:Nat) (xs:List α) (W:World),w.heap.size<=D->S xs->I xs W->W.heap[D]? = some (.deferred (some []))->Q .normal { a with defers:={ target:=.collected D,args:=#[] }::a.defers } W):(Code.rangeFunc g ps assign body).wpIn F n P Q a w:=by
 refine wpIn_rangeFunc ?_;intro fn hfn;rw[hro];obtain⟨rec,hrec⟩:∃rec:LoopState->Option Code->Loop,rec=fun st pe=>{ state:=st,pending:=pe,fn,tmps:=a.tmps,params:=ps,assign,body,defers:=w.heap.size }:=⟨_,rfl⟩;obtain⟨W1,hW1⟩:∃W1,(w.alloc (.deferred (some []))).alloc (.loop (rec .ready none))=W1:=⟨_,rfl⟩;have hL1:W1.heap[w.heap.size+1]? = some (.loop (rec .ready none)):=by rw[<-hW1];have:=World.alloc_heap_new (w.alloc (.deferred (some []))) (.loop (rec .ready none));rwa[World.size_alloc]at this
 have hK1:W1.heap[w.heap.size]? = some (.deferred (some [])):=by rw[<-hW1];exact(Below.heap_alloc _ _ _ (by simp)).trans (World.alloc_heap_new w _)
 have hI1:I [] W1:=by rw[<-hW1];exact hI.alloc _ (hI.alloc _ h0)
 have hb1:Below w.heap.size w W1:=by rw[<-hW1];exact((Below.refl _ w).alloc (aI _) _).alloc (by simp) _
 refine⟨w.heap.size+1,[{ target:=.collected w.heap.size,args:=#[] }],W1,{ target:=.fn (.func gf) lb,args:=#[.func (.yield (w.heap.size+1)) #[] #[]] },W1,gf,
  #[.func (.yield (w.heap.size+1)) #[] #[]]++lb,W1,?_,?_,?_,?_,fun _=>h1,?_⟩
 ·rw[<-hW1,hrec];exact run_enterLoop_outer _ _ _ _ _
 ·simp only[resolve,hg];simp[go_sem]
 ·intro f' hf';simp[Target.leads]at hf';subst hf';exact hFg
 ·simp[invoke,go_sem,eg]
 ·refine(hseq (w.heap.size+1)
   (fun pre W=>I pre W/\W.heap[w.heap.size+1]? = some (.loop (rec .ready none))/\W.heap[w.heap.size]? = some (.deferred (some [])))
   (fun _ _=>False) W1 hb1
   (fun s A B row hs hg' hr=>⟨hI s A B row hs.1 hg' (fun r e=>by obtain⟨hB,o,ho,hw⟩:=hr r e;exact⟨by rw[<-hW1]at hB;simp at hB;omega,o,ho,Obj.not_cells_of_walk hw⟩),(grownBy_keeps hg' (fun r e=>(hr r e).2) hs.2.1 rfl).trans hs.2.1,(grownBy_keeps hg' (fun r e=>(hr r e).2) hs.2.2 rfl).trans hs.2.2⟩)
   (fun _ _ _ _ h _ _=>h) ?_ ⟨hI1,hL1,hK1⟩).mono ?_
  ·rintro pre x W ⟨hi,hl,hk⟩ hlen;have hlt:w.heap.size+1<W.heap.size:=(aP.1 hl).1;have hy:=run_yield (P:=P) (args:=encs x) hl (by rw[hrec];exact hps x);rw[hrec]at hy;refine⟨fn,_,assign,body,hy,roundIn_of_wpIn hfn (hassign _ x W _ fun W' hg' hc'=>?_)⟩;have hl':W'.heap[w.heap.size+1]? = some (.loop (rec .ready none)):=(hg'.block _ hlt (by simp)).trans hl;have hk':W'.heap[w.heap.size]? = some (.deferred (some [])):=(hg'.block _ (by omega) (by simp)).trans hk;have hi':I pre W':=hI pre W W' none hi hg' (fun r e=>by cases e);have hsz':=hg'.size;refine⟨_,run_beginRound hl' (by rw[hrec]),?_⟩;have hlt':w.heap.size+1<W'.heap.size:=by omega
   have hl2:(W'.putObj (w.heap.size+1) (.loop { rec .ready none with state:=.busy })).heap[w.heap.size+1]? = some (.loop { rec .ready none with state:=.busy }):=World.putObj_heap_same hlt';have hk2:(W'.putObj (w.heap.size+1) (.loop { rec .ready none with state:=.busy })).heap[w.heap.size]? = some (.deferred (some [])):=(World.putObj_heap_other (by omega)).trans hk';have hc2:(W'.putObj (w.heap.size+1) (.loop { rec .ready none with state:=.busy })).heap[W.heap.size]? = some (.cells (cel x) t (0,0)):=(World.putObj_heap_other (by omega)).trans hc';refine wpIn_mono (hbody _ pre x W.heap.size _ (hI.putObj _ hi' (by omega) hl' rfl) hlen hc2 (by omega)) ?_;rintro e a3 W3 ⟨rfl,hk3,hw3,hi3⟩;have hl3:=hk3.same _ _ hl2 rfl;have hr:=run_endRound (P:=P) none hl3;rw[hrec]at hr;have hw0:KeepsWalks W W':=KeepsWalks.of_grownBy hg' (fun k o e=>by cases e);refine⟨_,_,hr,.inl ⟨rfl,⟨hI.putObj _ hi3 (by omega) hl3 rfl,?_,(World.putObj_heap_other (by omega)).trans (hk3.same _ _ hk2 rfl)⟩,((hw0.trans (KeepsWalks.putObj _ hl' rfl)).trans hw3).trans (KeepsWalks.putObj _ hl3 rfl)⟩⟩;rw[hrec];exact World.putObj_heap_same (aP.1 hl3).1
  ·rintro e W2 ⟨⟨v,rfl⟩,(⟨xs,hS,hi,hl,hk⟩|⟨pre,_,hf⟩)⟩
   ·exact⟨none,_,by have:=run_endLoop (P:=P) hl (by rw[hrec];simp);rw[hrec]at this;exact this,hdone _ xs _ (aI _) hS (hI.putObj _ hi (by omega) hl rfl) ((World.putObj_heap_other (by omega)).trans hk)⟩
   ·exact hf.elim
theorem yjB{W W':World}{base:Nat}{e:TypeId}{size:Nat}{v:Value}{k:Nat}{xs:LV}{row:Option Nat}(h:W.ownsRow base e size v k xs)(hg:W.grownBy W' row) (hr:∀r,row=some r->∃o:Obj,W.heap[r]? = some o/\o.isCells=false):W'.ownsRow base e size v k xs:=by
 refine h.kept hg ?_;rcases h.2 with⟨rfl,_⟩|⟨g,cap,cur,rfl,_,hgb,_⟩
 ·exact .inl rfl
 ·refine .inr fun e'=>?_;obtain⟨o,ho,hw⟩:=hr g (by simpa[Value.ownBlock]using e'.symm);rw[hgb]at ho;cases ho;cases hw
theorem ynU{W:World}{base:Nat}{e:TypeId}{size:Nat}{v:Value}{k:Nat}{xs:LV}(h:W.ownsRow base e size v k xs){g:Nat}(hg:some g=v.ownBlock):base<=g/\∃cur,W.heap[g]? = some (.cells cur e (0,0)):=by
 rcases h.2 with⟨rfl,_⟩|⟨g',cap,cur,rfl,hb,hgb,_⟩
 ·simp[Value.ownBlock]at hg
 ·have:g=g':=by simpa[Value.ownBlock]using hg
  subst this;exact⟨hb,cur,hgb⟩
theorem yyG{W W':World}{k:Nat}{c:Array Value}{t:TypeId}{fz:Nat×Nat}{row:Option Nat}(h:W.heap[k]? = some (.cells c t fz))(hg:W.grownBy W' row) (hr:∀r,row=some r->∃o:Obj,W.heap[r]? = some o/\o.isCells=false):W'.heap[k]? = some (.cells c t fz):=by refine(hg.block k (aP.1 h).1 fun e=>?_).trans h;obtain⟨o,ho,hw⟩:=hr k e.symm;rw[h]at ho;cases ho;cases hw
theorem boxM{W:World}{B:Nat}{v:Value}{t:TypeId}(h:W.heap[B]? = some (.cells #[v] t (0,0))):W.cell? ⟨B,0,none⟩=some v/\W.frozen? ⟨B,0,none⟩=false:=by constructor<;>simp[World.cell?,World.frozen?,h]
theorem boxM_set{W:World}{B:Nat}{v:Value}{t:TypeId}(v':Value)(h:W.heap[B]? = some (.cells #[v] t (0,0))):(W.setCell ⟨B,0,none⟩ v').heap[B]? = some (.cells #[v'] t (0,0)):=by obtain⟨hlt,hk⟩:=aP.1 h;show(W.heap.modify B _)[B]? = _;rw[Array.getElem?_eq_getElem (by rw[Array.size_modify];exact hlt),Array.getElem_modify_self,hk];rfl
theorem ymI{W:World}{b:Nat}{x y:Value}{t:TypeId}{fz:Nat×Nat}(h:W.heap[b]? = some (.cells #[x,y] t fz)):∀j u,[x,y][j]? = some u->W.cell? ((⟨b,0,none⟩:Addr).add j)=some u:=by
 intro j u hj
 match j,hj with
 |0,hj=>simp only[gH,Option.some.injEq]at hj;subst hj;show W.cell? ⟨b,0+0,none⟩=_;unfold World.cell?;simp only[h];rfl
 |1,hj=>simp only[List.getElem?_cons_succ,gH,Option.some.injEq]at hj;subst hj;show W.cell? ⟨b,0+1,none⟩=_;unfold World.cell?;simp only[h];rfl
def ltM(x y:Bs×Bs):Bool:=Op.bytesLess x.1 y.1||(x.1==y.1&&Op.bytesLess x.2 y.2)
def leM(x y:Bs×Bs):Bool:=!(ltM y x)
theorem yrC{x y:Bs×Bs}:ltM x y=true↔x.1<y.1∨(x.1=y.1/\x.2<y.2):=by unfold ltM;rw[bytesLess_eq,bytesLess_eq,Bool.or_eq_true,aF,zD,zD,beq_iff_eq]
theorem xcR{x y:Bs×Bs}:ltM x y=false↔y.1<x.1∨(y.1=x.1/\y.2<=x.2):=by
 rw[<-Bool.not_eq_true,yrC];constructor
 ·intro h;by_cases h1:y.1<x.1
  ·exact .inl h1
  ·have h2:¬x.1<y.1:=fun h3=>h (.inl h3);have e:y.1=x.1:=fJ (fV.1 h2) (fV.1 h1);exact .inr ⟨e,fV.1 fun h3=>h (.inr ⟨e.symm,h3⟩)⟩
 ·rintro(h|⟨h,k⟩) (g|⟨g,l⟩)
  ·exact eJ _ (fF h g)
  ·rw[g]at h;exact eJ _ h
  ·rw[h]at g;exact eJ _ g
  ·exact fV.2 k l
theorem yjO{x y z:Bs×Bs}(h:ltM x y=true)(k:ltM y z=true):ltM x z=true:=by
 rw[yrC]at *;rcases h with h|⟨h1,h2⟩
 ·rcases k with k|⟨k1,k2⟩
  ·exact .inl (fF h k)
  ·rw[k1]at h;exact .inl h
 ·rcases k with k|⟨k1,k2⟩
  ·rw[<-h1]at k;exact .inl k
  ·exact .inr ⟨h1.trans k1,fF h2 k2⟩
theorem zzI(x y z:Bs×Bs)(h:leM x y=true)(k:leM y z=true):leM x z=true:=by
 unfold leM at *;rw[bU,xcR]at *;rcases h with h|⟨h1,h2⟩
 ·rcases k with k|⟨k1,k2⟩
  ·exact .inl (fF h k)
  ·rw[k1]at h;exact .inl h
 ·rcases k with k|⟨k1,k2⟩
  ·rw[<-h1]at k;exact .inl k
  ·exact .inr ⟨h1.trans k1,iI h2 k2⟩
theorem yzJ(x:Bs×Bs):ltM x x=false:=xcR.2 (.inr ⟨rfl,List.le_refl _⟩)
theorem leM_of{x y:Bs×Bs}(h:ltM x y=true):leM x y=true:=by
 unfold leM;rw[bU];cases hk:ltM y x with
 |false=>rfl|true=>have:=yjO h hk;rw[yzJ]at this;cases this
theorem ydF(x y:Bs×Bs):leM x y=true∨leM y x=true:=by
 cases h:ltM x y with
 |true=>exact .inl (leM_of h)|false=>right;unfold leM;rw[h];rfl
theorem ymB{x y:Bs×Bs}(h:leM x y=true)(k:leM y x=true):x=y:=by
 unfold leM at *;rw[bU,xcR]at *;rcases h with h|⟨h1,h2⟩
 ·rcases k with k|⟨k1,k2⟩
  ·exact absurd (fF h k) (eJ _)
  ·rw[k1]at h;exact absurd h (eJ _)
 ·rcases k with k|⟨k1,k2⟩
  ·rw[h1]at k;exact absurd k (eJ _)
  ·exact Prod.ext h1 (fJ h2 k2)
def yoM(xs:List (Bs×Bs)):List (Bs×Bs):=yxX leM xs
def cmp2(x y:Bs×Bs):Int:=if Lib.compareBytes x.1 y.1=0 then Lib.compareBytes x.2 y.2 else Lib.compareBytes x.1 y.1
theorem yuC:∀(x y:Bs),Lib.compareBytes x y=0↔x=y
 |[],[]=>by simp[Lib.compareBytes]
 |[],_::_=>by simp[Lib.compareBytes]
 |_::_,[]=>by simp[Lib.compareBytes]
 |a::x,b::y=>by
  have h5:Lib.compareBytes (a::x) (b::y)=if a<b then -1 else if b<a then 1 else Lib.compareBytes x y:=by rw[Lib.compareBytes]
  rw[h5];by_cases h1:a<b
  ·rw[zI h1];refine⟨fun h=>by omega,fun h=>?_⟩;rw[(List.cons.inj h).1]at h1;exact absurd h1 (UInt8.lt_irrefl _)
  ·by_cases h2:b<a
   ·rw[zH h1,zI h2];refine⟨fun h=>by omega,fun h=>?_⟩;rw[(List.cons.inj h).1]at h2;exact absurd h2 (UInt8.lt_irrefl _)
   ·have h3:a=b:=UInt8.le_antisymm (UInt8.not_lt.1 h2) (UInt8.not_lt.1 h1);rw[zH h1,zH h2,yuC x y,h3];exact⟨fun h=>by rw[h],fun h=>(List.cons.inj h).2⟩
theorem ymA(x y:Bs×Bs):ltOf cmp2 x y=ltM x y:=by
 have h1:=yvD x.1 y.1;have h2:=yvD x.2 y.2;have hz:=yuC x.1 y.1;unfold ltOf cmp2;rw[Bool.eq_iff_iff,zD,yrC,<-decide_eq_decide.1 h1,<-decide_eq_decide.1 h2,<-hz];by_cases h:Lib.compareBytes x.1 y.1=0
 ·rw[zI h];exact⟨fun k=>.inr ⟨h,k⟩,fun k=>k.elim (fun k=>by omega) fun k=>k.2⟩
 ·rw[zH h];exact⟨fun k=>.inl k,fun k=>k.elim id fun k=>absurd k.1 h⟩
theorem swo_cmp2:SWO (ltOf cmp2) where
 irrefl x:=by rw[ymA];exact yzJ x
 trans x y z h1 h2:=by rw[ymA]at *;exact yjO h1 h2
 ntrans x y z h1 h2:=by
  rw[ymA]at *;have:=zzI z y x (by unfold leM;rw[h2];rfl) (by unfold leM;rw[h1];rfl);unfold leM at this
  rwa[bU]at this
set_option maxRecDepth 100000 in
set_option maxHeartbeats 1000000 in
theorem cmpM(x y:Bs×Bs)(W:World):Calls aA 126 #[.agg (enc2 x).toArray,.agg (enc2 y).toArray] W fun e w'=>e = .returned (.int .i64 (cmp2 x y))/\∃q os',w'=grow (W.drewN q) os':=by
 have hcon:=fun(a b:Bs) W'=>Tryz.strings_Compare ⟨a.toArray⟩ ⟨b.toArray⟩ W';change ∀a b W',Calls aA 90 _ _ _ at hcon;change ∀a b W',Calls _ _ _ _ fun e w'=>e = .returned (.int .i64 (Lib.compareBytes a b))/\w'=W' at hcon;have h1:=hcon x.1 y.1;have h2:=hcon x.2 y.2;clear hcon;show Calls _ _ #[.agg #[.string ⟨x.1.toArray⟩,.string ⟨x.2.toArray⟩],.agg #[.string ⟨y.1.toArray⟩,.string ⟨y.2.toArray⟩]] _ _;unfold cmp2;generalize Lib.compareBytes x.1 y.1=r1 at h1 ⊢;generalize Lib.compareBytes x.2 y.2=r2 at h2 ⊢
 go_enter Tryz.func126,Tryz.ntmps126
 go_wp2_with (first
  |(go_at_call 90;refine(h1 _).mono ?_;rintro e w' ⟨rfl,rfl⟩)
  |(go_at_call 90;refine(h2 _).mono ?_;rintro e w' ⟨rfl,rfl⟩))
 all_goals first
  |(have hx:=‹(r1 != 0)=true›;rw[‹r1=0›]at hx;cases hx;done)
  |(exact absurd (by simpa using ‹(r1 != 0)=false›) ‹¬r1=0›)
  |(exact absurd (by simpa using ‹¬(r1 != 0)=true›) ‹¬r1=0›)
  |(exact⟨rfl,0,_,by rw[alloc_eq_grow,alloc_eq_grow,grow_grow];rfl⟩)
  |(go_ret;exact⟨rfl,0,_,by rw[alloc_eq_grow,alloc_eq_grow,grow_grow];rfl⟩)
def RowM(base:Nat)(W:World)(v:Value)(ss:List (Bs×Bs)):Prop:=(v = .slice none 0 0/\ss=[])∨∃g cap rs,v = .slice (some ⟨g,0,none⟩) ss.length cap/\base<=g/\ss.length<=cap/\W.heap[g]? = some (.cells (ss.flatMap enc2++rs).toArray 75 (0,0))/\(ss.flatMap enc2++rs).length=cap*2
theorem rowM_of{base:Nat}{W:World}{v:Value}{ss:List (Bs×Bs)}(h:W.ownsRow base 75 2 v ss.length (ss.flatMap enc2)):RowM base W v ss:=by
 obtain⟨_,⟨rfl,h0⟩|⟨g,cap,cur,rfl,h1,h2,h3,h4,h5,h6⟩⟩:=h
 ·exact .inl ⟨rfl,aS h0⟩
 ·have e:ss.flatMap enc2++cur.toList.drop (ss.length*2)=cur.toList:=by rw[<-h6];exact List.take_append_drop _ _
  exact .inr ⟨g,cap,cur.toList.drop (ss.length*2),rfl,h1,h3,by rw[e];exact h2,by rw[e];simpa using h5⟩
theorem sortM_c{base:Nat}{W:World}{v:Value}{ss:List (Bs×Bs)}(h:RowM base W v ss)(hl:ss.length<=1048576)(hB:base<=W.heap.size):Calls aA 210 #[v,.func (.func 126) #[] #[]] W fun e W'=>e = .returned (.tuple #[])/\RowM base W' v (yoM ss)/\Below base W W':=by
 have hsl:(yoM ss).length=ss.length:=(zeY leM ss).length_eq;rcases h with⟨rfl,rfl⟩|⟨g,cap,rs,rfl,h1,h2,h3,h4⟩
 ·refine(AnyF.slices_SortFunc_none Tryz.sortQ none 0 (.func (.func 126) #[] #[]) W).mono ?_;rintro e W' ⟨rfl,rfl⟩;exact⟨rfl,.inl ⟨rfl,rfl⟩,Below.refl _ _⟩
 ·have hg:g<W.heap.size:=(aP.1 h3).1;have h3':W.heap[g]? = some (.cells ((ss.flatMap enc2).map id++rs).toArray 75 (0,0)):=by rw[fS];exact h3
  have hh:HoldsK enc2 2 W g 0 ss.toArray:=by unfold HoldsK;rw[ycH];exact holds_of h3' (.inl rfl)
  have hc:=AnyQ.slices_SortFunc Tryz.sortQ 2 Tryz.isAgg75 Tryz.sizeOf75 enc2 ylM ymC cmp2 swo_cmp2 126 #[] g 0 cap ss.toArray W (enters_of Tryz.func126 (by kernel_rfl) rfl) (fun _ _ _ _ x y=>cmpM x y _) hh hg (by simp;omega);simp only[dS]at hc;refine hc.mono ?_;rintro e W' ⟨rfl,d',q,os,hp,hs,rfl⟩;have hd:d'.toList=yoM ss:=by
   obtain⟨p1,_,p2⟩:=hp;have hp2:d'.toList.Perm ss:=by
    have e1:d'.extract 0 ss.length=d':=by have hz:d'.size=ss.length:=(by simpa using p1);rw[<-hz];simp
    have e2:ss.toArray.extract 0 ss.length=ss.toArray:=by simp
    rw[e1,e2]at p2;simpa using p2
   refine ztM (R:=fun x y=>leM x y=true) (fun a _ b _ h k=>ymB h k) (hp2.trans (zeY _ ss).symm) ?_ (ziF ydF zzI ss);rw[bW];intro i j hi hj hij;have hi':i<d'.size:=by simpa using hi
   have hj':j<d'.size:=by simpa using hj
   have h5:=hs i j (aZ _) hij (by have hz:d'.size=ss.length:=(by simpa using p1);omega);rw[ymA,getElem!_pos d' j hj',getElem!_pos d' i hi']at h5;show leM _ _=true;unfold leM;simp only[iZ];rw[h5];rfl
  have hd2:d'=(yoM ss).toArray:=by rw[<-hd]
  subst hd2;unfold sortWorldK putRowK;rw[ycH];obtain⟨g1,g2,g3⟩:=yaL (enc:=id) (ds:=(yoM ss).flatMap enc2) (q:=q) (os:=os) h3' (by rw[fS,zpF,zpF,hsl]);rw[fS]at g1;refine⟨rfl,.inr ⟨g,cap,rs,by rw[hsl],h1,by rw[hsl];exact h2,g1,?_⟩,?_⟩
  ·rw[<-h4];simp only[aC,zpF,hsl]
  ·exact⟨rfl,rfl,rfl,g3,fun k hk=>g2 k (by omega) (by omega)⟩
set_option maxRecDepth 100000 in
set_option maxHeartbeats 2000000 in
theorem yyA(F:Fence)(n:Nat)(hf:F.fn 276)(hg:F.fn 211)(hro:F.round=none)(hn:3<=n)(Bm b ck:Nat)(es:List MapEntry)(w:World)(hm:w.cell? ⟨Bm,0,none⟩=some (.map (some b)))(hb:w.heap[b]? = some (.map es.toArray ck))(hB:Bm<w.heap.size) (hold:∀x∈es,x.born<ck) (hnd:(es.map (·.born)).Nodup) (hk:∀e∈es,∃x,e.key=encM x) (hlen:es.length<=1048576):
  CallsIn F n aA 276 #[.slice none 0 0,.func (.func 211) #[] #[.pointer (some ⟨Bm,0,none⟩)]] w fun e w'=>∃(v:Value) (ss:List (Bs×Bs)),e = .returned v/\(ss.map encM).Perm (es.map (·.key))/\w'.ownsRow w.heap.size 75 2 v ss.length (ss.flatMap enc2)/\Below w.heap.size w w':=by
 refine callsIn_of_wp_marks Tryz.func276 rfl hf ?_ hro;simp only[Tryz.ntmps276,dS,aN,cC,jB,jC,gT,gU,iJ,iC,bL,bG]
 gi_wp2
 obtain⟨W0,hW0⟩:∃W0,w.alloc (.cells #[.slice none 0 0] 72)=W0:=⟨_,rfl⟩;have hs0:W0.heap.size=w.heap.size+1:=by rw[<-hW0];simp
 have hB0:Below w.heap.size w W0:=by rw[<-hW0];exact(Below.refl _ w).alloc (aI _) _
 have hc0:W0.heap[w.heap.size]? = some (.cells #[.slice none 0 0] 72 (0,0)):=by rw[<-hW0];exact World.alloc_heap_new w _
 have hbl:=(aP.1 hb).1;rw[hW0];clear hW0;have hne:∀{cur:Array Value} {c:Array Value},Obj.cells c 72 (0,0)≠Obj.cells cur 75 (0,0):=fun e=>by have:=(Obj.cells.inj e).2.1;exact absurd this (by decide)
 refine ysJ hro (by omega) (gf:=211) (lb:=#[.pointer (some ⟨Bm,0,none⟩)]) rfl hg (enters_of Tryz.func211 (by kernel_rfl) rfl)
  (yrM F _ hg hro (by omega) Bm b ck es W0 (by omega) ((hB0.cell (p:=⟨Bm,0,none⟩) hB).trans hm) ((hB0.block b hbl).trans hb) hold hnd hk) (fun _=>rfl)
  (fun pre W=>(∃v,W.heap[w.heap.size]? = some (.cells #[v] 72 (0,0))/\W.ownsRow w.heap.size 75 2 v pre.length (pre.flatMap enc2))/\Below w.heap.size w W)
  (OwnFrom.and (fun pre A B row hs hg' hr=>by
   obtain⟨v,h1,h2⟩:=hs
   exact⟨v,yyG h1 hg' fun r e=>(hr r e).2,yjB h2 hg' fun r e=>(hr r e).2⟩) (ownFrom_below (aI _) (by omega)))
  ⟨⟨_,hc0,⟨rfl,.inl ⟨rfl,rfl⟩⟩⟩,hB0⟩ (fun x=>(enc2 x).toArray) 75
  (fun x q=>{ tmps:=#[.slice none 0 0,.func (.func 211) #[] #[.pointer (some ⟨Bm,0,none⟩)],.pointer (some ⟨w.heap.size,0,none⟩),undef,.slice none 0 0,.pointer (some ⟨q,0,none⟩),.func (.func 211) #[] #[.pointer (some ⟨Bm,0,none⟩)],encM x,undef,undef,undef,undef,undef],defers:=[] }) ?assign ?body ?done
 case assign=>
  intro l x W K hK
  gi_wp2
  exact hK _ (World.grownBy_alloc W _ none) (World.alloc_heap_new W _)
 case body=>
  rintro l pre x q W ⟨⟨v,hv,hrow⟩,hbw⟩ hlen2 hq hqs;obtain⟨hc2,hf2⟩:=boxM hv;have hBlt:w.heap.size<W.heap.size:=(aP.1 hv).1;have hq0:W.cell? ⟨q,0,none⟩=some (.string ⟨x.1.toArray⟩):=ymI (x:=str x.1) (y:=str x.2) hq 0 _ rfl;have hq1:W.cell? ⟨q,1,none⟩=some (.string ⟨x.2.toArray⟩):=ymI (x:=str x.1) (y:=str x.2) hq 1 _ rfl;obtain⟨i0,hi,hz0,hz1,hz2⟩:=info_parts (P:=aA) (e:=75) (z:=.agg #[.string ⟨#[]⟩,.string ⟨#[]⟩]) (size:=2) (bytes:=32) (by kernel_rfl);have hsl:Tryz.prog.underlying 72=some (.slice 75):=by kernel_rfl
  have hbs:=hbw.size
  gi_wp2_with (gi_at_builtin; refine wpListIn_append_own _ rfl _ _ 72 rfl w.heap.size 75 i0 (.agg #[.string ⟨#[]⟩, .string ⟨#[]⟩]) 2 32 hsl hi hz0 hz1 hz2 rfl (by decide) _ _ _ rfl (hrow.alloc _) ⟨W.heap.size, 0, none⟩ 1 1 (enc2 x) rfl rfl (ymI (x := str x.1) (y := str x.2) (World.alloc_heap_new _ _)) (ymC x) (by simp [maxLen]; omega) (by omega) (by simp; omega) ?_; intro v' w3 hown' hg3 hnil3
               have hv3:w3.heap[w.heap.size]? = some (.cells #[v] 72 (0,0)):=(hg3.block w.heap.size (by simp;omega) (fun e=>by obtain⟨_,cur,hc⟩:=ynU hrow e;rw[hv]at hc;cases hc)).trans ((Below.heap_alloc _ _ _ hBlt).trans hv);obtain⟨hc3,hf3⟩:=boxM hv3;obtain⟨g',cap',cur',rfl,hbase',hgb',hr1,hr2,hr3,hr4⟩:∃g' cap' cur',v' = .slice (some ⟨g',0,none⟩) (pre.length+1) cap'/\w.heap.size<=g'/\w3.heap[g']? = some (.cells cur' 75 (0,0))/\pre.length+1<=cap'/\cap'<=maxLen/\cur'.size=cap'*2/\cur'.toList.take ((pre.length+1)*2)=pre.flatMap enc2++enc2 x:=by
                rcases hown'.2 with⟨_,h0⟩|h'
                ·exact absurd h0 (by omega)
                ·exact h')
  obtain⟨w4,hw4⟩:∃w4,w3.setCell ⟨w.heap.size,0,none⟩ (.slice (some ⟨g',0,none⟩) (pre.length+1) cap')=w4:=⟨_,rfl⟩;have hg4:w3.grownBy w4 (some w.heap.size):=by rw[<-hw4];exact⟨rfl,rfl,rfl,by simp,fun k _ hk=>Below.heap_setCell _ _ _ k (fun e=>hk (by rw[e]))⟩
  have hv4:w4.heap[w.heap.size]? = some (.cells #[.slice (some ⟨g',0,none⟩) (pre.length+1) cap'] 72 (0,0)):=by rw[<-hw4];exact boxM_set _ hv3
  rw[hw4];clear hw4;have hsz3:=hg3.size;have hsz4:=hg4.size;rw[World.size_alloc]at hsz3
  have hoth:∀(k:Nat) (o:Obj),W.heap[k]? = some o->o.isCells=false->w4.heap[k]? = some o:=fun k o hk ho=>by
   have hkl:k<W.heap.size:=(aP.1 hk).1;refine(hg4.block k (by omega) fun e=>?_).trans ((hg3.block k (by simp;omega) fun e=>?_).trans ((Below.heap_alloc _ _ k hkl).trans hk))
   ·cases e;rw[hv]at hk;cases hk;cases ho
   ·obtain⟨_,cur,hc⟩:=ynU hrow e;rw[hk]at hc;cases hc;cases ho
  have hb3:Below w.heap.size w w3:=(hbw.alloc hbs _).grown hg3 (by simp;omega) (fun k e=>(ynU hrow e.symm).1);refine⟨⟨by omega,fun k o hk ho=>hoth k o hk ho⟩,⟨by omega,fun k o hk ho=>hoth k o hk (Obj.not_cells_of_walk ho)⟩,⟨_,hv4,hown'.kept hg4 (.inr fun e=>?_)⟩,hb3.grown hg4 hb3.size (fun k e=>by cases e;exact aI _)⟩;obtain⟨_,cur,hc⟩:=ynU hown' e.symm;rw[hv3]at hc;cases hc
 case done=>
  rintro D ss W hD hS ⟨⟨v,hv,hrow⟩,hbw⟩ hK;obtain⟨hc2,hf2⟩:=boxM hv
  gi_wp2
  refine⟨by simp,.inl ⟨_,_,rfl,run_takeDeferred hK,?_⟩⟩;have hg3:=grownBy_putObj' W D (.deferred none);exact⟨_,results_tmp rfl _ _ _,v,ss,rfl,hS,yjB hrow hg3 (fun r e=>by cases e;exact⟨_,hK,rfl⟩),hbw.grown hg3 hbw.size (fun k e=>by cases e;omega)⟩
set_option maxHeartbeats 2000000 in
theorem ytF(F:Fence)(n:Nat)(h0:F.fn 209)(hf:F.fn 276)(hg:F.fn 211)(hro:F.round=none)(hn:4<=n)(Bm b ck:Nat)(es:List MapEntry)(w:World)(hm:w.cell? ⟨Bm,0,none⟩=some (.map (some b)))(hb:w.heap[b]? = some (.map es.toArray ck))(hB:Bm<w.heap.size) (hold:∀x∈es,x.born<ck) (hnd:(es.map (·.born)).Nodup) (hk:∀e∈es,∃x,e.key=encM x) (hlen:es.length<=1048576):
  CallsIn F n aA 209 #[.func (.func 211) #[] #[.pointer (some ⟨Bm,0,none⟩)]] w fun e w'=>∃(v:Value) (ss:List (Bs×Bs)),e = .returned v/\(ss.map encM).Perm (es.map (·.key))/\w'.ownsRow w.heap.size 75 2 v ss.length (ss.flatMap enc2)/\Below w.heap.size w w':=by
 have h1:1<=n:=by omega
 have e1:∀args w,(callFunc 276 args).run aA w = .ok (.enter 276 args) w:=enters_of Tryz.func276 (by kernel_rfl) rfl;refine callsIn_of_wp Tryz.func209 rfl h0 ?_ hro;simp only[Tryz.ntmps209,dS,aN,cC,jB,jC,gT,gU,iJ,iC,bL,bG]
 gi_wp2_with (gi_at_call 276;refine(yyA F (n-1) hf hg hro (by omega) Bm b ck es _ hm hb hB hold hnd hk hlen).mono ?_;rintro e w' ⟨v,ss,rfl,hp,hrow,hx⟩)
 go_ret
 exact⟨v,ss,rfl,hp,hrow,hx⟩
theorem encM_inj{x y:Bs×Bs}(h:encM x=encM y):x=y:=by
 have h2:[str x.1,str x.2].toArray=[str y.1,str y.2].toArray:=by injection h
 have h3:[str x.1,str x.2]=[str y.1,str y.2]:=by injection h2
 exact Prod.ext (ybR (List.cons.inj h3).1) (ybR (List.cons.inj (List.cons.inj h3).2).1)
theorem yvB{α β:Type}{f:α->β}(hf:∀x y,f x=f y->x=y):∀{l m:List α},(l.map f).Perm (m.map f)->l.Perm m
 |[],m,h=>by have:=h.length_eq;rw[aS (l:=m) (by simpa using this.symm)]
 |x::l,m,h=>by obtain⟨y,hy,e⟩:=aR.1 (h.mem_iff.1 (show f x∈(x::l).map f from aM));have e:=hf _ _ e;subst e;obtain⟨a,c,rfl⟩:=List.append_of_mem hy;have h2:((y::l).map f).Perm ((y::(a++c)).map f):=h.trans (List.Perm.map f List.perm_middle);exact(List.Perm.cons y (yvB hf (List.Perm.cons_inv h2))).trans List.perm_middle.symm
set_option maxHeartbeats 2000000 in
theorem xdR(Bm b ck:Nat)(es:List MapEntry)(ks:List (Bs×Bs))(w:World)(hm:w.cell? ⟨Bm,0,none⟩=some (.map (some b)))(hb:w.heap[b]? = some (.map es.toArray ck))(hB:Bm<w.heap.size) (hold:∀x∈es,x.born<ck) (hnd:(es.map (·.born)).Nodup) (hks:(ks.map encM).Perm (es.map (·.key))) (hlen:es.length<=1048576) (hs:yoM ks=ks):Calls aA 124 #[.func (.func 211) #[] #[.pointer (some ⟨Bm,0,none⟩)],.func (.func 126) #[] #[]] w fun e w'=>∃v,e = .returned v/\RowM w.heap.size w' v ks/\Ext w w':=by
 have hk:∀e∈es,∃x,e.key=encM x:=fun e he=>by obtain⟨x,_,hx⟩:=aR.1 (hks.mem_iff.2 (aR.2 ⟨e,he,rfl⟩));exact⟨x,hx.symm⟩
 have k1:=(callsIn_wide (n:=5)).1 (ytF Fence.wide 5 trivial trivial trivial rfl (by omega) Bm b ck es w hm hb hB hold hnd hk hlen);have k2:=fun(W:World) (v:Value) (ss:List (Bs×Bs)) (hp:(ss.map encM).Perm (es.map (·.key))) (hrow:W.ownsRow w.heap.size 75 2 v ss.length (ss.flatMap enc2)) (hx:Below w.heap.size w W)=>sortM_c (rowM_of hrow) (by have:=hp.length_eq;simp at this;omega) hx.size;have k3:∀ss:List (Bs×Bs),(ss.map encM).Perm (es.map (·.key))->yoM ss=ks:=fun ss hp=>by rw[<-hs];have hpp:ss.Perm ks:=yvB (fun _ _=>encM_inj) (hp.trans hks.symm);exact ztM (R:=fun x y=>leM x y=true) (fun a _ b _ h k=>ymB h k) ((zeY _ ss).trans (hpp.trans (zeY _ ks).symm)) (ziF ydF zzI ss) (ziF ydF zzI ks)
 go_enter Tryz.func124,Tryz.ntmps124
 go_wp2_with (first
  |(go_at_call 209;refine k1.mono ?_;rintro e w' ⟨v,ss,rfl,hp,hrow,hx⟩)
  |(go_at_call 210;refine(k2 _ v ss hp hrow hx).mono ?_;rintro e w2 ⟨rfl,hr2,hx2⟩))
 go_ret
 rw[k3 ss hp]at hr2;exact⟨v,rfl,hr2,hx.trans hx2⟩
def yeZ:List (Bs×Bs)->Bool
 |x::y::l=>ltM x y&&yeZ (y::l)|_=>true
theorem yoA:∀{l:List (Bs×Bs)},yeZ l=true->l.Pairwise fun x y=>ltM x y=true
 |[],_=>.nil|[x],_=>List.pairwise_singleton _ _|x::y::l,h=>by
  unfold yeZ at h;rw[aF]at h;have ih:=yoA (l:=y::l) h.2;refine aW.2 ⟨fun z hz=>?_,ih⟩;rcases aK.1 hz with rfl|hz
  ·exact h.1
  ·exact yjO h.1 ((aW.1 ih).1 z hz)
theorem yrT{l:List (Bs×Bs)}(h:yeZ l=true):yoM l=l:=
 ztM (R:=fun x y=>leM x y=true) (fun _ _ _ _ h k=>ymB h k) (zeY _ l) (ziF ydF zzI l) ((yoA h).imp leM_of)
def ycO(es:List ((Bs×Bs)×Unit)):Option (List (Bs×Bs)×List ((Bs×Bs)×Unit)):=bif decide (es.length<=1048576)&&yeZ (es.map (·.1))then some (es.map (·.1),es)else none
theorem yuD{S:Mem}:∀{l:List ((Bs×Bs)×Unit)} {ents:List MapEntry},A2 (fun(p:(Bs×Bs)×Unit) en=>rep1 (.pr .s .s) S en.key p.1/\rep1 .un S en.val p.2) l ents->ents.map (·.key)=l.map fun p=>encM p.1
 |_,_,.nil=>rfl|p::l,en::ents,.cons a r=>by have h:en.key=kv (.pr .s .s) p.1:=ycB (K:=.pr .s .s) rfl a.1;rw[bF,bF,yuD r,h];rfl
theorem rowM_rd{S:Mem}{W:World}{base:Nat}{v:Value}{ss:List (Bs×Bs)}(h:RowM base W v ss)(hS:∀g,base<=g->S g=W.heap[g]?):@RdS (den T2) (rpD T2) S v ss:=by
 refine⟨ss.flatMap enc2,?_,xcY ss⟩;show SlS S v ss.length 2 (ss.flatMap enc2);rcases h with⟨rfl,rfl⟩|⟨g,cap,rs,rfl,h1,h2,h3,h4⟩
 ·exact .inl ⟨⟨_,rfl⟩,rfl,rfl⟩
 ·refine .inr ⟨g,0,cap,ss.flatMap enc2++rs,75,(0,0),rfl,h2,?_,?_,?_⟩
  ·rw[hS g h1,h3]
  ·rw[h4];omega
  ·rw[zbB,List.drop_zero];exact List.take_left' (zpF ss)
section
variable {G:List (Nat×Obj)}
abbrev qaY:OSh:=.mp true (.pr .s .s) .un
theorem yrF:SCok aA G 124 ⟨⟨[(0,(.fn 211 [] [(.ptr 0 0)])),(1,(.fn 126 [] []))],[.blk 126 [(.mpr 1)],qaY]⟩,1,[(none,⟨[(0,(.h (.sl (.pr .s .s))))],[.blk 126 [(.mpr 1)],qaY]⟩)],fun(es:List ((Bs×Bs)×Unit))=>ycO es⟩:=by
 refine⟨isFn Tryz.func124 (by kernel_rfl) (by kernel_rfl),fun S0 w0 us E0 L0 (es:List ((Bs×Bs)×Unit)) d _ hul R hy=>?_⟩;have hy:(bif decide (es.length<=1048576)&&yeZ (es.map (·.1))then some (es.map (·.1),es)else none)=some d:=hy;obtain⟨hok,hy⟩:=zaG hy;have hd:d=(es.map (·.1),es):=(Option.some.inj hy).symm;subst hd;have hlen:=zC (zbH hok);have hrise:=zbR hok;have hul:us.length=2:=hul;obtain⟨u,u2,rfl⟩:∃u u2,us=[u,u2]:=by
  match us,hul with
  |[u,u2],_=>exact⟨u,u2,rfl⟩
 have R:RelV ⟨S0,zcD L0,w0⟩ S0 E0 L0 ⟨[(0,.fn 211 [] [.ptr 0 0]),(1,.fn 126 [] [])],[.blk 126 [.mpr 1],.mp 0 (.pr .s .s) .un es]⟩ (fun t=>[u,u2].getD t undef) w0:=R;obtain⟨r0,e0,a1,a2,b0,cs,rfl,rfl,a3⟩:=R.objN (i:=0) rfl;obtain⟨c,rfl,a4⟩:=a3.one;obtain⟨_,e1,a5,a6⟩:=(show VB S0 E0 (.mpr 1) c from a4);obtain⟨r1,e1',c1,c2,b,ents,ck,rfl,rfl,c3,c4⟩:=R.objN (i:=1) rfl;rw[c2]at a5;cases a5;have hc:=a6 _ _ _ _ rfl;subst hc;have hh0:w0.heap[b0]? = some (.cells [Value.map (some b)].toArray 126 (0,0)):=R.hs.own 0 _ a1;have hh1:w0.heap[b]? = some (.map ents.toArray ck):=R.hs.own 1 _ c1;have hu:u = .func (.func 211) #[] #[.pointer (some ⟨b0,0,none⟩)]:=by obtain⟨xs,ys,hu,h1,h2⟩:=(show VC S0 E0 (.fn 211 [] [.ptr 0 0]) u from R.sl 0);cases h1;obtain⟨y,rfl,h3⟩:=h2.one;obtain⟨b1,hy,e2,h4,h5⟩:=(show VB S0 E0 (.ptr 0 0) y from h3);rw[a2]at h4;cases h4;cases h5 _ rfl;rw[hu,hy]
 subst hu;obtain⟨x1,y1,hu2,q1,q2⟩:=(show VC S0 E0 (.fn 126 [] []) u2 from R.sl 1);cases q1;cases q2;have hu2:u2 = .func (.func 126) #[] #[]:=hu2;subst hu2;obtain⟨(l:List ((Bs×Bs)×Unit)),(hl:l.Perm es),hA⟩:=c3.perm;have hkeys:=yuD hA;have hks:((es.map (·.1)).map encM).Perm (ents.map (·.key)):=by rw[hkeys,dF];exact(hl.map _).symm
 have hcell:w0.cell? ⟨b0,0,none⟩=some (.map (some b)):=by simp[World.cell?,hh0]
 refine(xdR b0 b ck ents (es.map (·.1)) w0 hcell hh1 (aP.1 hh0).1 c4 c3.nd hks (by have h1:dO l=ents.length:=hA.len;have h2:dO l=es.length:=hl.length_eq;omega) (yrT hrise)).mono fun e w' ⟨v,he,hrow,hx⟩=>?_;have R':=R.call hx;have hv:VB (gr S0 w0 w') E0 (.v (.sl (.pr .s .s)) (show List (Bs×Bs)from es.map (·.1))) v:=⟨v,rfl,rowM_rd hrow fun g hg=>by unfold Go.Proofs.YtopanhneegpgcaaGreatDoor.gr;rw[zH (by omega)]⟩;refine⟨v,he,gr S0 w0 w',E0,L0,⟨[(0,.v (.sl (.pr .s .s)) (show List (Bs×Bs)from es.map (·.1)))],[.blk 126 [.mpr 1],.mp 0 (.pr .s .s) .un es]⟩,fun _=>v,fun k=>rfl,ypO R.hs.sub,Pin.refl _ _,⟨R'.hs,R'.lL,R'.lE,R'.obj,fun t=>?_⟩,?_,aI _,rfl⟩
 ·cases t with
  |zero=>exact VR.ofC (show VC _ _ (.v (.sl (.pr .s .s)) (show List (Bs×Bs)from es.map (·.1))) v from hv)|succ t=>trivial
 ·intro i ver e' T' xs h;cases i with
  |zero=>cases h
  |succ i=>
   cases i with
   |zero=>cases h
   |succ i=>cases h
end
end Go.Proofs.YtopanhneegpgcaaGreatDoor.Am
namespace Go.Proofs
open Go.Shelf
end Go.Proofs
namespace Go.Proofs.YtopanhneegpgcaaGreatDoor.Am
open Go Go.Proofs Go.RowKit Go.Sort Go.Shelf Go.Lib
section
variable {G:List (Nat×Obj)}
end
end Go.Proofs.YtopanhneegpgcaaGreatDoor.Am
namespace Go.Proofs.YtopanhneegpgcaaGreatDoor.Am
open Go Go.RowKit
structure Ops where
 itoa:Int->Option Bs
 atoi:Bs->Option (Int×Bool)
 trim:Bs->Bs->Option Bs
 cut:Bs->Bs->Option (Bs×Bs×Bool)
 form:(List Bs)->Option Bs
 compare:Bs->Bs->Option (Int)
def yrN(o:Ops):PC:=⟨[(.h (.i .i64))],[.s],fun x=>o.itoa x,false⟩
def oc_atoi(o:Ops):PC:=⟨[(.h .s)],[(.i .i64),.er],fun x=>o.atoi x,false⟩
def ynM(o:Ops):PC:=⟨[(.h .s),(.h .s)],[.s],fun x=>o.trim x.1 x.2,false⟩
def xfF(o:Ops):PC:=⟨[(.h .s),(.h .s)],[.s,.s,.b],fun x=>o.cut x.1 x.2,false⟩
def yjK(o:Ops):PC:=⟨[(.h (.sl .s))],[.s],fun x=>o.form x,false⟩
def ywZ(o:Ops):PC:=⟨[(.h .s),(.h .s)],[(.i .i64)],fun x=>o.compare x.1 x.2,false⟩
class zoW (G:List (Nat×Obj)) (o:Ops):Prop where
 itoa:PCok aA G 68 (yrN o)
 atoi:PCok aA G 165 (oc_atoi o)
 trim:PCok aA G 164 (ynM o)
 cut:PCok aA G 59 (xfF o)
 form:PCok aA G 22 (yjK o)
 compare:PCok aA G 90 (ywZ o)
theorem witO{p:Prop}{G:List (Nat×Obj)}{o:Ops}[zrD G][zoW G o](h:p):p:=h
def zaB:Ops:=⟨yrD,yxU,ycE,cutP,zmH,yvZ⟩
instance realOk {G:List (Nat×Obj)} [zrD G]:zoW G zaB:=⟨yiQ,yiS,yjQ,yjY,yjT,ycP⟩
end Go.Proofs.YtopanhneegpgcaaGreatDoor.Am
