/- Parts of one proof. Conditions: as each theorem says. -/
import Derived.Test.YtmbcolbbekbccaaGreatQmP
open Array renaming length_toList->gY
open Bool renaming and_eq_true->aL,not_true->gL,or_eq_true->cH
open List renaming drop_drop->dP,drop_eq_nil_of_le->cV,ext_getElem?->aW,findIdx_getElem->gO,findIdx_le_length->gE,getElem?_drop->bD,getElem?_eq_getElem->aG,getElem?_eq_none->bM,getElem?_eq_some_iff->aC,getElem?_take->bN,getElem_mem->eE,length_drop->bU,length_map->bP,length_set->bL,length_singleton->gM,map->gG,map_append->dH,map_cons->bS,map_nil->eW,mem_singleton->aY,not_of_lt_findIdx->gF,sum_cons->iM,take_add_one->gA,take_length->eC,take_of_length_le->cU
open Nat renaming add_mul->bI,beq->aH,eq_of_beq_eq_true->aB,eq_zero_or_pos->fX,le_refl->aJ,one_mul->dG,sub_add_cancel->fY,zero_le->bX
open Option renaming bind->aA,bind_eq_some_iff->eI,isSome_none->iE,toList_some->jB
open Go.Proofs.Tryz renaming prog->aD
namespace Go.Proofs.YtmbcolbbekbccaaGreat.Am
open Go Go.RowKit Go.ChangeShapes Go.WideShapes Go.ChangeAt
def dsz:(t:Ty)->den t->Nat
 |.s,x=>List.length x+1|.pr a c,x=>dsz a x.1+dsz c x.2|.un,_=>0|.sl e,x=>(gG (dsz e) x).sum+1|_,_=>1
def fOk(q:TypeId->Ty->Bool)(c:TypeId->Nat):List Field->Nat->Ty->Bool
 |[],_,t=>match t with
  |.un=>true|_=>false
 |[f],off,t=>(q f.type t&&(aH f.offset off&&aH (c f.type) (tsz t)))||(match t with
  |.pr a .un=>q f.type a&&(aH f.offset off&&aH (c f.type) (tsz a))|_=>false)
 |f::g::fs,off,t=>match t with
  |.pr a r=>(q f.type a&&(aH f.offset off&&aH (c f.type) (tsz a)))&&fOk q c (g::fs) (off+tsz a) r|_=>false
def tyOk(P:Program):Nat->TypeId->Ty->Bool
 |0,_,_=>false|n+1,T,t=>match P.underlying T,t with
  |some (.int k),.i k'=>(ikEq k k').isSome|some .bool,.b=>true|some .string,.s=>true|some (.slice E),.sl e=>tyOk P n E e&&(aH (P.cellsOf E) (tsz e)&&Nat.blt 0 (tsz e))|some (.struct fs),t=>(aH (P.cellsOf T) (tsz t) && !(one t))&&fOk (tyOk P n) P.cellsOf fs.toList 0 t|_,_=>false
section
variable {H:Type}{enc:TypeId×Value->H}{P:Program}{W:World}{sp:Nat->Bool}{S:Mem}
theorem toI_wf:∀{k:IntKind} {n:Int},(Lit.int k n).wf=true->toI k (ofI k n)=n:=fun {k n} h=>by rw[ynT];cases k<;>simp[Lit.wf,IntKind.min,IntKind.max,IntKind.signed,IntKind.bits]at h<;>simp[IntKind.wrap,IntKind.signed,IntKind.bits]<;>omega
theorem ycM{a c:Ty}{cs:LV}{x:den a}{y:den c}(hx:rep a S (cs.take (tsz a)) x)(hy:rep c S (cs.drop (tsz a)) y):rep (.pr a c) S cs (x,y):=
 ⟨_,_,(List.take_append_drop (tsz a) cs).symm,hx,hy⟩
theorem yxG:rep .un S ([]:LV) ():=rfl
theorem yeS{q:TypeId->Ty->Bool}{fuel:Nat}(hq:∀(T:TypeId) (t:Ty),q T t=true->∀cs d ps,DataW.trod enc P W 0 sp true fuel T cs=some (d,ps)->∃x:den t,rep t S cs x/\dsz t x<=Rows.uptoBulk d){cs:LV}:∀(fs:List Field) (off:Nat) (t:Ty) (xs:List (DataW H×List MemPlace)),fOk q P.cellsOf fs off t=true->cs.length=off+tsz t ->
   A2 (fun(f:Field) y=>DataW.trod enc P W 0 sp true fuel f.type ((cs.drop f.offset).take (P.cellsOf f.type))=some y) fs xs ->
   ∃x:den t,rep t S (cs.drop off) x/\dsz t x<=Rows.uptoBulkAll (xs.map (·.1))
 |[],off,t,xs,h,hl,hA=>by
  cases t<;>simp only[fOk]at h<;>try (cases h;done)
  cases hA;refine⟨(),?_,bX _⟩;rw[cV (by rw[hl];exact aJ _)];exact yxG
 |[f],off,t,xs,h,hl,hA=>by
  cases hA with
  | @cons _ y _ _ h1 h2=>
   cases h2;simp only[fOk,cH]at h;rcases h with h|h
   ·rw[aL,aL]at h;obtain⟨h0,h2,h3⟩:=h;have h2:=aB h2;have h3:=aB h3;obtain⟨x,hx,hd⟩:=hq _ _ h0 _ _ _ h1;refine⟨x,?_,by simp only[bS,eW,Rows.uptoBulkAll];omega⟩;rw[h2,h3,cU (by rw[bU];omega)]at hx;exact hx
   ·cases t with
    |pr a c=>
     cases c with
     |un=>rw[aL,aL]at h;obtain⟨h0,h2,h3⟩:=h;have h2:=aB h2;have h3:=aB h3;obtain⟨x,hx,hd⟩:=hq _ _ h0 _ _ _ h1;rw[h2,h3]at hx;have hl:cs.length=off+tsz a:=hl;refine⟨(x,()),ycM hx ?_,by simp only[bS,eW,Rows.uptoBulkAll];show dsz a x+0<=_;omega⟩;rw[cV (by rw[bU];omega)];exact yxG
     |_=>simp at h
    |_=>simp at h
 |f::g::fs,off,t,xs,h,hl,hA=>by
  cases t with
  |pr a r=>
   simp only[fOk]at h;rw[aL,aL,aL]at h;obtain⟨⟨h1,h2,h3⟩,h4⟩:=h;have h2:=aB h2;have h3:=aB h3;have hl:cs.length=off+(tsz a+tsz r):=hl;cases hA with
   | @cons _ y _ ys g1 g2=>obtain⟨x,hx,hd⟩:=hq _ _ h1 _ _ _ g1;obtain⟨z,hz,he⟩:=yeS hq (g::fs) (off+tsz a) r ys h4 (by omega) g2;rw[h2,h3]at hx;refine⟨(x,z),ycM hx (by rw[dP];exact hz),?_⟩;simp only[bS,Rows.uptoBulkAll];show dsz a x+dsz r z<=_;omega
  |_=>simp[fOk]at h
theorem yyL{α β:Type}{R:α->β->Prop}:∀{l:List α} {m:List β},l.length=m.length->(∀(i:Nat) (a:α) (b:β),l[i]? = some a->m[i]? = some b->R a b)->A2 R l m
 |[],[],_,_=>.nil|[],_::_,h,_=>by cases h
 |_::_,[],h,_=>by cases h
 |a::l,b::m,h,hR=>.cons (hR 0 a b rfl rfl) (yyL (by simpa using h) fun i a b ha hb=>hR (i+1) a b (by simpa using ha) (by simpa using hb))
theorem ylZ{e:Ty}:∀{xs:List (den e)} {cs ds:LV} {x:den e},@RL (den e) (rpD e) S cs xs->rep e S ds x->@RL (den e) (rpD e) S (cs++ds) (xs++[x])
 |[],cs,ds,x,h,hx=>by have h:cs=[]:=h;subst h;exact⟨ds,[],by simp,hx,rfl⟩
 |y::xs,cs,ds,x,h,hx=>by obtain⟨c,d,rfl,h1,h2⟩:=h;exact⟨c,d++ds,by simp,h1,ylZ h2 hx⟩
theorem sl_of{T E:TypeId}{e:Ty}{fuel:Nat}(hu:P.underlying T=some (.slice E))(hc:P.cellsOf E=tsz e)(hz:0<tsz e)(hq:∀(m:Nat) (cs:LV) (d:DataW H) (ps:List MemPlace),DataW.trod enc P W 0 (fun _=>true) true m E cs=some (d,ps)->∃x:den e,rep e (zrV W) cs x/\dsz e x<=Rows.uptoBulk d){cs:LV}{d:DataW H}{ps:List MemPlace}(hd:DataW.trod enc P W 0 (fun _=>true) true fuel T cs=some (d,ps)):∃xs:List (den e),rep (.sl e) (zrV W) cs xs/\dsz (.sl e) xs<=Rows.uptoBulk d:=by
 rcases DataW.trod_slice hu hd with⟨rfl,h2⟩|⟨a,len,cap,elems,rest,m,rfl,rfl,h2,_,hlc,_,hel,hget,hrest,_⟩
 ·cases h2;exact⟨[],⟨_,rfl,[],.inl ⟨⟨none,rfl⟩,rfl,rfl⟩,rfl⟩,aJ _⟩
 ·cases h2;by_cases hcap:cap=0
  ·subst hcap;obtain rfl:len=0:=by omega
   refine⟨[],⟨_,rfl,[],.inl ⟨⟨some a,rfl⟩,rfl,rfl⟩,rfl⟩,?_⟩;show 0+1<=_;simp only[Rows.uptoBulk];omega
  have h0:∃us,W.cells? 0 a (P.cellsOf E)=some us:=by
   by_cases hl0:len=0
   ·subst hl0;obtain⟨g1,g2⟩:=hrest rfl;have g3:=g2 0 (by omega);rw[aG (by omega:0<rest.length)]at g3;obtain⟨us,hus,_⟩:=eI.1 g3;rw[show a.add ((0+0)*P.cellsOf E)=a by simp[Addr.add]]at hus;exact⟨us,hus⟩
   ·have g3:=hget 0 (by omega);rw[aG (by omega:0<elems.length)]at g3;obtain⟨us,hus,_⟩:=eI.1 g3;rw[show a.add (0*P.cellsOf E)=a by simp[Addr.add]]at hus;exact⟨us,hus⟩
  obtain⟨us,hus⟩:=h0;obtain⟨_,hul,huc⟩:=World.cells?_some hus;have hc0:=huc 0 (by omega);rw[show a.add 0=a by simp[Addr.add],aG (by omega:0<us.length)]at hc0;obtain⟨blk,off,spot⟩:=a;obtain⟨cs,R,fz,hb,hsp,ho⟩:∃cs R fz,W.heap[blk]? = some (.cells cs R fz)/\spot=none/\off<=cs.size:=by
   unfold World.cell? at hc0
   dsimp only at hc0
   split at hc0
   ·rename_i c R fz hb;cases spot with
    |some s=>simp at hc0|none=>rw[zG (by simp)]at hc0;have:=(Array.getElem?_eq_some_iff.1 hc0).1;exact⟨c,R,fz,hb,rfl,Nat.le_of_lt this⟩
   ·cases hc0
  subst hsp;have ad:∀j,(⟨blk,off,none⟩:Addr).add j=⟨blk,off+j,none⟩:=fun j=>by simp[Addr.add]
  have each:∀i,i<len->∃y x,elems[i]? = some y/\rep e (zrV W) (piece cs.toList (off+i*tsz e) (tsz e)) x/\dsz e x<=Rows.uptoBulk y.1/\off+(i+1)*tsz e<=cs.toList.length:=fun i hi=>by
   have hg:=hget i hi;obtain⟨y,hy⟩:∃y,elems[i]? = some y:=⟨_,aG (by omega)⟩;rw[hy]at hg;obtain⟨us,hus,hg⟩:=eI.1 hg;obtain⟨_,hul,huc⟩:=World.cells?_some hus;obtain⟨x,hx,hdx⟩:=hq m us y.1 y.2 hg;rw[hc,ad]at huc;rw[hc]at hul;have hcell:∀j,j<tsz e->cs.toList[off+i*tsz e+j]? = us[j]?:=fun j hj=>by have:=huc j hj;rw[show(⟨blk,off+i*tsz e,none⟩:Addr).add j=⟨blk,off+i*tsz e+j,none⟩ by simp[Addr.add]]at this;simp only[World.cell?,hb,iE,zG (show ¬(false=true) by decide)]at this;simpa using this
   have hlen:off+(i+1)*tsz e<=cs.toList.length:=by have h1:=hcell (tsz e-1) (by omega);rw[aG (by omega:tsz e-1<us.length)]at h1;have:=(aC.1 h1).1;rw[bI];omega
   refine⟨y,x,hy,?_,hdx,hlen⟩;have:piece cs.toList (off+i*tsz e) (tsz e)=us:=by
    apply aW;intro j;rw[zaN,bN];by_cases hj:j<tsz e
    ·rw[zH hj,bD];exact hcell j hj
    ·rw[zG hj,bM (by omega)]
   rw[this];exact hx
  have key:∀k,k<=len->∃xs:List (den e),xs.length=k/\@RL (den e) (rpD e) (zrV W) (piece cs.toList off (k*tsz e)) xs/\(gG (dsz e) xs).sum<=Rows.uptoBulkAll ((elems.take k).map (·.1)):=by
   intro k;induction k with
   |zero=>intro _;exact⟨[],rfl,by simp[piece,RL],bX _⟩|succ k ih=>
    intro hk;obtain⟨xs,h1,h2,h3⟩:=ih (by omega);obtain⟨y,x,g1,g2,g3,_⟩:=each k (by omega);refine⟨xs++[x],by simp[h1],?_,?_⟩
    ·have e2:piece cs.toList off ((k+1)*tsz e)=piece cs.toList off (k*tsz e)++piece cs.toList (off+k*tsz e) (tsz e):=by rw[zaN,zaN,zaN,bI,dG,List.take_add,dP]
     rw[e2];exact ylZ h2 g2
    ·rw[gA,g1];simp only[jB,dH,bS,eW,List.sum_append,iM,List.sum_nil,yhN,Rows.uptoBulkAll];omega
  obtain⟨xs,h1,h2,h3⟩:=key len (aJ _);have hfit:off+len*tsz e<=cs.toList.length:=by
   rcases fX len with h0|h0
   ·subst h0;rw[gY];omega
   ·obtain⟨_,_,_,_,_,h4⟩:=each (len-1) (by omega)
    rwa[fY h0]at h4
  refine⟨xs,⟨_,rfl,piece cs.toList off (len*tsz e),?_,h2⟩,?_⟩
  ·right;refine⟨blk,off,cap,cs.toList,R,fz,?_,by rw[h1];exact hlc,yiV hb rfl,?_,?_⟩
   ·rw[h1]
   ·rw[h1];show _+_*(rpD e).sz<=_;rw[zgJ];exact hfit
   ·rw[h1];show piece _ _ (_*(rpD e).sz)=_;rw[zgJ]
  ·rw[cU (by omega)]at h3;show(gG (dsz e) xs).sum+1<=_;simp only[Rows.uptoBulk];omega
theorem ybS:∀(n:Nat) (T:TypeId) (t:Ty),tyOk P n T t=true->∀(fuel:Nat) (cs:LV) (d:DataW H) (ps:List MemPlace),DataW.trod enc P W 0 (fun _=>true) true fuel T cs=some (d,ps)->∃x:den t,rep t (zrV W) cs x/\dsz t x<=Rows.uptoBulk d
 |0,_,_,h,_,_,_,_,_=>by cases h
 |n+1,T,t,h,fuel,cs,d,ps,hd=>by
  unfold tyOk at h;split at h
  ·rename_i k k' hu;obtain⟨hk,_⟩:=Option.isSome_iff_exists.1 h;obtain rfl:=hk.down;obtain⟨m,rfl,he,hw⟩:=DataW.trod_int hu hd;cases he;exact⟨ofI _ m,(by show [Value.int _ m]=[.int _ (toI _ (ofI _ m))];rw[toI_wf hw]),aJ 1⟩
  ·rename_i hu;obtain⟨b,rfl,he⟩:=DataW.trod_bool hu hd;cases he;exact⟨b,rfl,aJ 1⟩
  ·rename_i hu;obtain⟨s,rfl,he,_⟩:=DataW.trod_string hu hd;cases he;exact⟨s.data.toList,(by show [Value.string s]=[str s.data.toList];simp[str]),aJ _⟩
  ·rename_i E e hu;rw[aL,aL]at h;obtain⟨h1,h2,h3⟩:=h;exact sl_of hu (aB h2) (by rw[zhH]at h3;simpa using h3) (fun m cs d ps hd=>ybS n E e h1 m cs d ps hd) hd
  ·rename_i fs hu;rw[aL,aL]at h;obtain⟨⟨h1,_⟩,h2⟩:=h;have h1:=aB h1;obtain⟨xs,fuel,rfl,he,hl,hxl,hm⟩:=DataW.trod_struct hu hd;cases he;obtain⟨x,hx,hb⟩:=yeS (S:=zrV W) (fuel:=fuel) (fun T' t' hq cs d ps=>ybS n T' t' hq fuel cs d ps) fs.toList 0 _ xs h2 (by rw[hl,h1];omega) (yyL (by simp[hxl]) fun i f y hf hy=>(hm i f (by simpa using hf)).trans hy);exact⟨x,by simpa using hx,by simp only[Rows.uptoBulk];omega⟩
  ·cases h
variable {b0:Nat}{T E:TypeId}{v:Value}
theorem yuV{n:Nat}{e:Ty}(hu:P.underlying T=some (.slice E))(he:tyOk P n E e=true)(hc:P.cellsOf E=tsz e)(hz:0<tsz e)(h:Value.okWide P W .any b0 T v){d:DataW H}{ps:List MemPlace}(hd:DataW.Trod enc P W 0 (fun _=>true) true T v d ps):∃xs:List (den e),@RdS (den e) (rpD e) (zrV W) v xs/\dsz (.sl e) xs<=Rows.uptoBulk d:=by
 obtain⟨fuel,hf⟩:=hd;have hv:=ok_slice hu h;have hcells:v.cells.toList=[v]:=by rcases hv with rfl|⟨a,len,cap,rfl⟩<;>rfl
 rw[hcells]at hf;rcases DataW.trod_slice hu hf with⟨h1,h2⟩|⟨a,len,cap,elems,rest,m,rfl,h1,h2,_,hlc,_,hel,hget,_,_⟩
 ·simp only[List.cons.injEq,and_true]at h1;subst h1;cases h2;exact⟨[],⟨[],.inl ⟨⟨none,rfl⟩,rfl,rfl⟩,rfl⟩,aJ _⟩
 ·simp only[List.cons.injEq,and_true]at h1;subst h1;cases h2;obtain⟨hsp,cs,R,fz,hb,ho⟩:=yuT hu h;obtain⟨blk,off,spot⟩:=a
  dsimp only at hsp hb ho
  subst hsp;have ad:∀j,(⟨blk,off,none⟩:Addr).add j=⟨blk,off+j,none⟩:=fun j=>by simp[Addr.add]
  have each:∀i,i<len->∃y x,elems[i]? = some y/\rep e (zrV W) (piece cs.toList (off+i*tsz e) (tsz e)) x/\dsz e x<=Rows.uptoBulk y.1/\off+(i+1)*tsz e<=cs.toList.length:=fun i hi=>by
   have hg:=hget i hi;obtain⟨y,hy⟩:∃y,elems[i]? = some y:=⟨_,aG (by omega)⟩;rw[hy]at hg;obtain⟨us,hus,hg⟩:=eI.1 hg;obtain⟨_,hul,huc⟩:=World.cells?_some hus;obtain⟨x,hx,hdx⟩:=ybS n E e he m us y.1 y.2 hg;rw[hc,ad]at huc;rw[hc]at hul;have hcell:∀j,j<tsz e->cs.toList[off+i*tsz e+j]? = us[j]?:=fun j hj=>by have:=huc j hj;rw[show(⟨blk,off+i*tsz e,none⟩:Addr).add j=⟨blk,off+i*tsz e+j,none⟩ by simp[Addr.add]]at this;simp only[World.cell?,hb,iE,zG (show ¬(false=true) by decide)]at this;simpa using this
   have hlen:off+(i+1)*tsz e<=cs.toList.length:=by have h1:=hcell (tsz e-1) (by omega);rw[aG (by omega:tsz e-1<us.length)]at h1;have:=(aC.1 h1).1;rw[bI];omega
   refine⟨y,x,hy,?_,hdx,hlen⟩;have:piece cs.toList (off+i*tsz e) (tsz e)=us:=by
    apply aW;intro j;rw[zaN,bN];by_cases hj:j<tsz e
    ·rw[zH hj,bD];exact hcell j hj
    ·rw[zG hj,bM (by omega)]
   rw[this];exact hx
  have key:∀k,k<=len->∃xs:List (den e),xs.length=k/\@RL (den e) (rpD e) (zrV W) (piece cs.toList off (k*tsz e)) xs/\(gG (dsz e) xs).sum<=Rows.uptoBulkAll ((elems.take k).map (·.1)):=by
   intro k;induction k with
   |zero=>intro _;exact⟨[],rfl,by simp[piece,RL],bX _⟩|succ k ih=>
    intro hk;obtain⟨xs,h1,h2,h3⟩:=ih (by omega);obtain⟨y,x,g1,g2,g3,_⟩:=each k (by omega);refine⟨xs++[x],by simp[h1],?_,?_⟩
    ·have e2:piece cs.toList off ((k+1)*tsz e)=piece cs.toList off (k*tsz e)++piece cs.toList (off+k*tsz e) (tsz e):=by rw[zaN,zaN,zaN,bI,dG,List.take_add,dP]
     rw[e2];exact ylZ h2 g2
    ·rw[gA,g1];simp only[jB,dH,bS,eW,List.sum_append,iM,List.sum_nil,yhN,Rows.uptoBulkAll];omega
  obtain⟨xs,h1,h2,h3⟩:=key len (aJ _);have hfit:off+len*tsz e<=cs.toList.length:=by
   rcases fX len with h0|h0
   ·subst h0;rw[gY];omega
   ·obtain⟨_,_,_,_,_,h4⟩:=each (len-1) (by omega)
    rwa[fY h0]at h4
  refine⟨xs,⟨piece cs.toList off (len*tsz e),?_,h2⟩,?_⟩
  ·right;refine⟨blk,off,cap,cs.toList,R,fz,?_,by rw[h1];exact hlc,yiV hb rfl,?_,?_⟩
   ·rw[h1]
   ·rw[h1];show _+_*(rpD e).sz<=_;rw[zgJ];exact hfit
   ·rw[h1];show piece _ _ (_*(rpD e).sz)=_;rw[zgJ]
  ·rw[cU (by omega)]at h3;show(gG (dsz e) xs).sum+1<=_;simp only[Rows.uptoBulk];omega
def argOk(P:Program)(T:TypeId)(t:Ty):Bool:=match P.underlying T,t with
 |some (.slice E),.sl e=>tyOk P 8 E e&&(aH (P.cellsOf E) (tsz e)&&Nat.blt 0 (tsz e))|_,t=>tyOk P 8 T t
theorem argD_ok{t:Ty}(ha:argOk P T t=true)(h:Value.okWide P W .any b0 T v){d:DataW H}{ps:List MemPlace}(hd:DataW.Trod enc P W 0 (fun _=>true) true T v d ps):∃x:den t,rep1 t (zrV W) v x/\dsz t x<=Rows.uptoBulk d:=by
 unfold argOk at ha;split at ha
 ·rename_i E e hu;rw[aL,aL]at ha;obtain⟨h1,h2,h3⟩:=ha;obtain⟨xs,g1,g2⟩:=yuV hu h1 (aB h2) (by rw[zhH]at h3;simpa using h3) h hd;exact⟨xs,⟨v,rfl,g1⟩,g2⟩
 ·obtain⟨fuel,hf⟩:=hd;obtain⟨x,hx,hb⟩:=ybS 8 T _ ha fuel _ _ _ hf;refine⟨x,?_,hb⟩;unfold rep1;unfold tyOk at ha;split at ha
  ·rename_i hu;have hv:v.cells.toList=[v]:=by simp only[Value.okWide,Cell.okWide,Cell.ok]at h;cases v<;>simp_all<;>rfl
   rw[hv]at hx;rw[zH (show one (.i _)=true from rfl)];exact hx
  ·rename_i hu;have hv:v.cells.toList=[v]:=by simp only[Value.okWide,Cell.okWide,Cell.ok]at h;cases v<;>simp_all<;>rfl
   rw[hv]at hx;rw[zH (show one .b=true from rfl)];exact hx
  ·rename_i hu;have hv:v.cells.toList=[v]:=by simp only[Value.okWide,Cell.okWide,Cell.ok]at h;cases v<;>simp_all<;>rfl
   rw[hv]at hx;rw[zH (show one .s=true from rfl)];exact hx
  ·rename_i hu hno;exact(hno _ _ hu rfl).elim
  ·rename_i fs hu _;rw[aL,aL]at ha;simp only[Value.okWide,hu]at h;obtain⟨cs,rfl,_,_⟩:=h;rw[zG (by simpa using ha.1.2)];exact⟨cs.toList,by simp,hx⟩
  ·cases ha
def posT:Ty->Bool
 |.un=>false|.pr a c=>posT a||posT c|_=>true
theorem ygQ:∀{e:Ty},posT e=true->∀x:den e,1<=dsz e x
 |.i _,_,_=>aJ 1|.b,_,_=>aJ 1|.s,_,_=>Nat.le_add_left 1 _|.er,_,_=>aJ 1|.sl _,_,_=>Nat.le_add_left 1 _|.mp _ _,_,_=>aJ 1|.jk _,_,_=>aJ 1|.pt _,_,_=>aJ 1|.pr a c,h,x=>by
  show 1<=dsz a x.1+dsz c x.2;have h:(posT a||posT c)=true:=h;rw[cH]at h;rcases h with h|h
  ·have:=ygQ h x.1;omega
  ·have:=ygQ h x.2;omega
theorem yqQ{e:Ty}(he:posT e=true):∀xs:List (den e),xs.length+1<=dsz (.sl e) xs
 |[]=>aJ 1|x::xs=>by have h1:=ygQ he x;have h2:xs.length+1<=(gG (dsz e) xs).sum+1:=yqQ he xs;show(x::xs).length+1<=(gG (dsz e) (x::xs)).sum+1;simp only[List.length_cons,bS,iM];omega
theorem rep1_vr{t:Ty}{S:Mem}{E:List EI}{v:Value}{x:den t}(h:rep1 t S v x):VR S E (svOf t x) v:=ylW (l:=[t]) h
end
end Go.Proofs.YtmbcolbbekbccaaGreat.Am
namespace Go.Proofs.YtmbcolbbekbccaaGreat.Am
open Go Go.RowKit
theorem yyV{e:Ty}{x:den e}:∀{xs:List (den e)},x∈xs->dsz e x<=dsz (.sl e) xs
 |y::ys,h=>by
  show _<=(gG (dsz e) (y::ys)).sum+1;simp only[bS,iM];rcases List.mem_cons.1 h with rfl|h
  ·omega
  ·have:dsz e x<=(gG (dsz e) ys).sum+1:=yyV h;omega
abbrev L8:Type:=Bs
abbrev Ke:Type:=L8×L8×L8
def kyE(s:L8):Ke:=(s,kidF s,mkF s)
def kyL(L:List L8):List Ke:=L.map kyE
theorem zgU(L:List L8):(kyL L).length=L.length:=by simp[kyL]
theorem ydW{L:List L8}{k:Nat}(h:k<L.length):idx (kyL L) (k:Int)=some (kyE L[k]):=by rw[zhM rfl (by rw[zgU];exact h)];simp[kyL]
theorem zuM{k n:Nat}(h:k<n):chk (decide ((0:Int)<=(k:Int))&&decide ((k:Int)<(n:Int)))=some ():=by rw[zA (show(0:Int)<=(k:Int) by omega),zA (show(k:Int)<(n:Int) by omega)];rfl
theorem app_z{α:Type}{l:List α}(h:l.length<=1048576):app ([]:List α) l=some l:=by rw[zfN (by simp;omega)];rfl
theorem yoH{α:Type}{l:List α}{k:Nat}{x:α}(h:k<l.length):setL l (k:Int) x=some (l.set k x):=by unfold setL;rw[zA (show(0:Int)<=(k:Int) by omega),zA (show(k:Int)<(l.length:Int) by omega)];rfl
theorem ykY{k s:L8}(hk:k.length<=1048576)(hs:s.length<=1048576):macP k s=some (macF k s):=by unfold macP;rw[zA (show k.length<=68719470000 by omega),zA (show s.length<=68719460000 by omega)];rfl
theorem ybE(s:L8):(mkF s).length=32:=zgQ _ _
theorem yxN{s:L8}(h:s.length<=1048576):yfA s=some (kyE s):=by unfold yfA;rw[zA (show s.length<=68719460000 by omega)];rfl
theorem ysH{s:L8}(h:s.length<=1048576):znK s=some (kidF s):=by unfold znK;rw[ykY (by decide) h,zaA,show(9:Int)=((9:Nat):Int)from rfl,yaT (by rw[zgQ];decide),zaA];unfold yaF;rw[zA (show(List.take 9 (macF [107,105,100] s)).length<=4194304 by rw[List.length_take,zgQ];decide)];rfl
theorem yiQ{s:L8}(h:s.length<=1048576):zkH s=some (mkF s):=by unfold zkH;rw[ykY (by decide) h,zaA];rfl
def Rn(L:List L8):Prop:=1<=L.length/\L.length<=8/\∀s∈L,s.length<=1048576
theorem yyF{L:List L8}(hL:L.length<=8)(kid:L8):zfG kid (kyL L)=some (match ziH L kid with
  |some s=>.inl (kyE s,kyL L)|none=>.inr (kyL L)):=by
 have hn:plF L kid<=L.length:=gE
 have key:iter (fun x:Int×List Ke=>zcG kid (kyL L) x.1 x.2) ((0:Int),kyL L)=some (match ziH L kid with
   |some s=>.inl (kyE s,kyL L)|none=>.inr (kyL L)):=by
  refine zbY (fun k=>((k:Int),kyL L)) (plF L kid) (by omega) _ (fun k hk=>?_) ?_
  ·simp only;unfold zcG;have hk2:k<L.length:=by omega
   rw[zdT (by rw[zgU];omega),zuM (by rw[zgU];exact hk2),zaA,ydW hk2,zaA,zqI (by simpa[kyE]using gF hk),w64s k (by omega)]
  ·simp only;unfold zcG;by_cases h:plF L kid<L.length
   ·rw[zdT (by rw[zgU];omega),zuM (by rw[zgU];exact h),zaA,ydW h,zaA,zsI (show((kyE (L[plF L kid]'h)).2.1==kid)=true from gO (w:=h)),ziH,aG h]
   ·rw[zeG (by rw[zgU];omega),ziH,bM (by omega)]
 unfold zfG;rw[key,zaA];cases ziH L kid<;>rfl
theorem ynS{L:List L8}(hL:Rn L)(kid:L8):zhB kid L=some (match ziH L kid with
  |some _=>((plF L kid:Nat):Int)|none=>-1,L):=by
 obtain⟨_,h8,hs⟩:=hL;have hn:plF L kid<=L.length:=gE
 have key:iter (fun x:Int×List L8=>ziF kid x.1 x.2) ((0:Int),L)=some (match ziH L kid with
   |some _=>.inl (((plF L kid:Nat):Int),L)|none=>.inr L):=by
  refine zbY (fun k=>((k:Int),L)) (plF L kid) (by omega) _ (fun k hk=>?_) ?_
  ·simp only;unfold ziF;have hk2:k<L.length:=by omega
   rw[zdT (by omega),zuM hk2,zaA,zhM rfl hk2,zaA,ysH (hs _ (eE hk2)),zaA,zqI (by simpa using gF hk),w64s k (by omega)]
  ·simp only;unfold ziF;by_cases h:plF L kid<L.length
   ·rw[zdT (by omega),zuM h,zaA,zhM rfl h,zaA,ysH (hs _ (eE h)),zaA,zsI (show(kidF (L[plF L kid]'h)==kid)=true from gO (w:=h)),ziH,aG h]
   ·rw[zeG (by omega),ziH,bM (by omega)]
 unfold zhB;rw[key,zaA];cases ziH L kid<;>rfl
theorem ymH{L:List L8}(hL:Rn L){s:L8}(h:s.length<=1048576):∃(c:Int) (M:List L8),Rn M /\((zcD s (kyL L)=some (.inl (c,kyL M))/\zbM s L=some (.inl (c,M)))∨(zcD s (kyL L)=some (.inr (c,kyL M))/\zbM s L=some (.inr (c,M)))):=by
 obtain⟨h1,h8,hs⟩:=hL;unfold zcD zbM;rw[yxN h,zaA,show(kyE s).2.1=kidF s from rfl,yyF h8,zaA,ysH h,zaA,ynS ⟨h1,h8,hs⟩,zaA];cases e:ziH L (kidF s) with
 |some q=>exact⟨80,L,⟨h1,h8,hs⟩,.inl ⟨rfl,by simp only;rw[zdT (by omega)]⟩⟩|none=>
  simp only;rw[zeG (by omega),zgU];by_cases e8:L.length=8
  ·rw[zsI (by rw[beq_iff_eq];omega),zdT (by omega)];exact⟨82,L,⟨h1,h8,hs⟩,.inl ⟨rfl,rfl⟩⟩
  ·rw[zqI (by rw[beq_eq_false_iff_ne];omega),zeG (by omega),zfN (by rw[zgU,gM];omega),zaA,zfN (by rw[gM];omega),zaA];refine⟨0,L++[s],⟨by simp,by simp;omega,fun x hx=>?_⟩,.inr ⟨by simp[kyL],rfl⟩⟩;rcases List.mem_append.1 hx with hx|hx
   ·exact hs x hx
   ·rw[aY.1 hx];exact h
theorem yyC{n:Nat}(h1:1<=n)(h8:n<=8):w64 ((n:Int)-(1:Int))=((n-1:Nat):Int):=by rw[zfD (by omega) (by omega)];omega
theorem mac_oo{L:List L8}(hL:Rn L){m:L8}(h:m.length<=1048576):∃a b:L8,zhT m (kyL L)=some (a,b,kyL L)/\zjZ m L=some (a,b,L):=by
 obtain⟨h1,h8,hs⟩:=hL;have hi:L.length-1<L.length:=by omega
 have e1:zfO (kyL L)=some (kyE L[L.length-1],kyL L):=by unfold zfO;rw[zgU,yyC h1 h8,zuM hi,zaA,ydW hi,zaA]
 have e2:zfH L=some (L[L.length-1],L):=by unfold zfH;rw[yyC h1 h8,zuM hi,zaA,zhM rfl hi,zaA]
 have ht:=hs _ (eE hi);refine⟨kidF L[L.length-1],macF (mkF L[L.length-1]) m,?_,?_⟩
 ·unfold zhT;rw[e1,zaA];simp only[kyE];rw[ykY (by rw[ybE];decide) h,zaA]
 ·unfold zjZ;rw[e2,zaA,ysH ht,zaA,e2,zaA,yiQ ht,zaA,ykY (by rw[ybE];decide) h,zaA]
theorem xdH{L:List L8}(hL:Rn L){kid m c:L8}(hm:m.length<=1048576)(hc:c.length<=1048576):∃b:Bool,zgL kid m c (kyL L)=some (b,kyL L)/\zhZ kid m c L=some (b,L):=by
 obtain⟨h1,h8,hs⟩:=hL;unfold zgL zhZ;rw[yyF h8,zaA,ynS ⟨h1,h8,hs⟩,zaA];cases e:ziH L kid with
 |none=>exact⟨false,rfl,by simp only;rw[zeG (by omega)]⟩|some s=>
  simp only;have e':L[plF L kid]? = some s:=e;obtain⟨hlt,hs'⟩:=aC.1 e';refine⟨macF (mkF s) m==c,?_,?_⟩
  ·simp only[kyE];rw[ykY (by rw[ybE];decide) hm,zaA];unfold ytX;rw[zA (show(macF (mkF s) m).length<=68719476736 by rw[zgQ];decide),zA (show c.length<=68719476736 by omega)];rfl
  ·rw[zdT (by omega),zuM hlt,zaA,zhM rfl hlt,zaA,hs',yiQ (hs s (by rw[<-hs'];exact eE hlt)),zaA,ykY (by rw[ybE];decide) hm,zaA]
theorem yxD{L:List L8}(h8:L.length<=8):zaS (kyL L)=some (kyL L,L.map kidF):=by
 have key:iter (fun x:Int×List Ke×List L8=>zcF (kyL L) x.1 x.2.1 x.2.2) ((0:Int),kyL L,([]:List L8))=some (kyL L,L.map kidF):=by
  refine zbY (fun k=>((k:Int),kyL L,(L.take k).map kidF)) L.length (by omega) _ (fun k hk=>?_) ?_
  ·simp only;unfold zcF;rw[zdT (by rw[zgU];omega),zuM (by rw[zgU];exact hk),zaA,ydW hk,zaA,zfN (by simp;omega),zaA,w64s k (by omega),zkM hk,dH];rfl
  ·simp only;unfold zcF;rw[zeG (by rw[zgU];omega),eC]
 unfold zaS;rw[key];rfl
theorem xcE{L:List L8}(h8:L.length<=8):zgP (kyL L)=some (kyL L,L):=by
 have key:iter (fun x:Int×List Ke×List L8=>zfP (kyL L) x.1 x.2.1 x.2.2) ((0:Int),kyL L,([]:List L8))=some (kyL L,L):=by
  refine zbY (fun k=>((k:Int),kyL L,L.take k)) L.length (by omega) _ (fun k hk=>?_) ?_
  ·simp only;unfold zfP;rw[zdT (by rw[zgU];omega),zuM (by rw[zgU];exact hk),zaA,ydW hk,zaA,zfN (by simp;omega),zaA,w64s k (by omega),zkM hk];rfl
  ·simp only;unfold zfP;rw[zeG (by rw[zgU];omega),eC]
 unfold zgP;rw[key];rfl
theorem yrR{L:List L8}(hL:Rn L):zaZ L=some (L,L.map kidF):=by
 obtain⟨_,h8,hs⟩:=hL
 have key:iter (fun x:Int×List L8×List L8=>zhV x.1 x.2.1 x.2.2) ((0:Int),L,([]:List L8))=some (L,L.map kidF):=by
  refine zbY (fun k=>((k:Int),L,(L.take k).map kidF)) L.length (by omega) _ (fun k hk=>?_) ?_
  ·simp only;unfold zhV;rw[zdT (by omega),zuM hk,zaA,zhM rfl hk,zaA,ysH (hs _ (eE hk)),zaA,zfN (by simp;omega),zaA,w64s k (by omega),zkM hk,dH];rfl
  ·simp only;unfold zhV;rw[zeG (by omega),eC]
 unfold zaZ;rw[key];rfl
theorem ynC{l:List L8}(h8:l.length<=8):zaV l l=some true:=by
 have key:iter (ziI l l) (0:Int)=some (.inr ()):=by
  refine zbY (fun k=>(k:Int)) l.length (by omega) _ (fun k hk=>?_) ?_
  ·unfold ziI;rw[zdT (by omega),zhM rfl hk,zaA,zaA,bne_self_eq_false,zF,w64s k (by omega)]
  ·unfold ziI;rw[zeG (by omega)]
 unfold zaV;rw[bne_self_eq_false,zF,key];rfl
theorem ynW{L:List L8}(h8:L.length<=8):zgK (kyL L)=some (kyL L,kyL L):=by show aA (aA (app ([]:List Ke) (kyL L)) fun r=>some (kyL L,r)) _=_;rw[app_z (by rw[zgU];omega)];rfl
theorem ytT{L:List L8}(h8:L.length<=8):ziJ L=some (L,L):=by unfold ziJ;rw[app_z (by omega)];rfl
theorem op_o{L:List L8}(hL:Rn L){o:Int×L8×L8×L8}(h1:o.2.1.length<=1048576)(h2:o.2.2.1.length<=1048576)(h3:o.2.2.2.length<=1048576):∃M:List L8,Rn M/\zhW (kyL L) L o=some (.inr (kyL M,M)):=by
 have h8:=hL.2.1;unfold zhW;cases k0:o.1==(0:Int) with
 |true=>
  rw[zE];obtain⟨c,M,hM,⟨e1,e2⟩|⟨e1,e2⟩⟩:=ymH hL h1
  ·refine⟨M,hM,?_⟩;rw[e1,zaA];simp only;rw[e2,zaA];simp only;rw[bne_self_eq_false,zF]
  ·refine⟨M,hM,?_⟩;rw[e1,zaA];simp only;rw[e2,zaA];simp only;rw[bne_self_eq_false,zF]
 |false=>
  rw[zF];cases k1:o.1==(1:Int) with
  |true=>rw[zE];obtain⟨a,b,e1,e2⟩:=mac_oo hL h1;refine⟨L,hL,?_⟩;rw[e1,zaA,e2,zaA];simp only;rw[bne_self_eq_false,zF,bne_self_eq_false,zF]
  |false=>
   rw[zF];cases k2:o.1==(2:Int) with
   |true=>rw[zE];obtain⟨b,e1,e2⟩:=xdH hL (kid:=o.2.2.1) h1 h3;refine⟨L,hL,?_⟩;rw[e1,zaA,e2,zaA];simp only;rw[bne_self_eq_false,zF]
   |false=>
    rw[zF];cases k3:o.1==(3:Int) with
    |true=>rw[zE];exact⟨L,hL,by rw[ynW h8,zaA]⟩|false=>
     rw[zF];cases k4:o.1==(4:Int) with
     |false=>exact⟨L,hL,rfl⟩|true=>
      rw[zE,ynW h8,zaA,ytT h8,zaA];simp only;obtain⟨c,M,hM,⟨e1,e2⟩|⟨e1,e2⟩⟩:=ymH hL h1<;>obtain⟨d,K,hK,⟨e3,e4⟩|⟨e3,e4⟩⟩:=ymH hL h2
      all_goals
       refine⟨K,hK,?_⟩;rw[e1,zaA];simp only;rw[e2,zaA];simp only;rw[bne_self_eq_false,zF,e3,zaA];simp only;rw[e4,zaA];simp only;rw[bne_self_eq_false,zF,yxD hM.2.1,zaA,yrR hM,zaA];simp only;rw[ynC (by rw[bP];exact hM.2.1),zaA,gL,zF]
theorem yzB{L:List L8}(hL:Rn L)(n:List L8)(m:List L8)(hn:n.length=L.length)(hm:m.length=L.length):iter (fun x:Int×List L8×List L8×List Ke×List L8=>zeR x.1 x.2.1 x.2.2.1 x.2.2.2.1 x.2.2.2.2) ((0:Int),n,m,kyL L,L)=some (kyL L,L):=by
 have h8:=hL.2.1
 have key:∀(f i:Nat) (n m:List L8),n.length=L.length->m.length=L.length->f+i=L.length->∀g,f<g->zoT (fun x:Int×List L8×List L8×List Ke×List L8=>zeR x.1 x.2.1 x.2.2.1 x.2.2.2.1 x.2.2.2.2) g ((i:Int),n,m,kyL L,L)=some (kyL L,L):=by
  intro f;induction f with
  |zero=>intro i n m hn hm hi g hg;obtain⟨g,rfl⟩:∃k,g=k+1:=⟨g-1,by omega⟩;refine zmJ ?_;simp only;unfold zeR;rw[zeG (by omega)]
  |succ f ih=>intro i n m hn hm hi g hg;obtain⟨g,rfl⟩:∃k,g=k+1:=⟨g-1,by omega⟩;refine(ziN (s':=(((i+1:Nat):Int),n.set i [115,112,111,105,108,116],m.set i [115,112,111,105,108,116],kyL L,L)) ?_).trans (ih (i+1) _ _ (by rw[bL];exact hn) (by rw[bL];exact hm) (by omega) g (by omega));simp only;unfold zeR;rw[zdT (by omega),zuM (by omega),zaA,yoH (by omega),zaA,zuM (by omega),zaA,yoH (by omega),zaA,w64s i (by omega)]
 exact key L.length 0 n m hn hm (by omega) FU (by unfold FU;omega)
theorem ykP(v0:L8)(v1:List (Int×L8×L8×L8))(hk:dsz .s v0+dsz (.sl (.pr (.i .i64) (.pr .s (.pr .s .s)))) v1<=1048576):ziW v0 v1=some true:=by
 have f0:dsz .s v0=v0.length+1:=rfl;have hl:v1.length+1<=dsz (.sl (.pr (.i .i64) (.pr .s (.pr .s .s)))) v1:=yqQ (e:=.pr (.i .i64) (.pr .s (.pr .s .s))) rfl v1;have ho:∀o∈v1,o.2.1.length<=1048576/\o.2.2.1.length<=1048576/\o.2.2.2.length<=1048576:=fun o ho=>by have h1:dsz (.pr (.i .i64) (.pr .s (.pr .s .s))) o<=dsz (.sl (.pr (.i .i64) (.pr .s (.pr .s .s)))) v1:=yyV (e:=.pr (.i .i64) (.pr .s (.pr .s .s))) ho;have h2:dsz (.pr (.i .i64) (.pr .s (.pr .s .s))) o=1+(o.2.1.length+1+(o.2.2.1.length+1+(o.2.2.2.length+1))):=rfl;exact⟨by omega,by omega,by omega⟩
 have key:∀(f i:Nat) (L:List L8),Rn L->f+i=v1.length->∀g,f<g->zoT (fun x:Int×List Ke×List L8=>zfZ v1 x.1 x.2.1 x.2.2) g ((i:Int),kyL L,L)=some (.inr ()):=by
  intro f;induction f with
  |zero=>intro i L hL hi g hg;obtain⟨g,rfl⟩:∃k,g=k+1:=⟨g-1,by omega⟩;refine zmJ ?_;simp only;unfold zfZ;rw[zeG (by omega)]
  |succ f ih=>
   intro i L hL hi g hg;obtain⟨g,rfl⟩:∃k,g=k+1:=⟨g-1,by omega⟩;have hlt:i<v1.length:=by omega
   obtain⟨a1,a2,a3⟩:=ho _ (eE hlt);obtain⟨M,hM,e⟩:=op_o hL a1 a2 a3;refine(ziN (s':=(((i+1:Nat):Int),kyL M,M)) ?_).trans (ih (i+1) M hM (by omega) g (by omega));have ej:ziB (kyL M,M) (kyL M,M.map kidF) (kyL M,M)=some (.inr (M.map kidF,M,kyL M,M)):=by unfold ziB;rw[yrR hM,zaA,ynC (by rw[bP];exact hM.2.1),zaA,gL,zF,ynC hM.2.1,zaA,gL,zF]
   simp only;unfold zfZ;rw[zdT (by omega),zhM rfl hlt,zaA,e,zaA];simp only;rw[yxD hM.2.1,zaA,xcE hM.2.1,zaA,ej,zaA];simp only;rw[show iter _ ((0:Int),M.map kidF,M,kyL M,M)=_ from yzB hM _ _ (by rw[bP]) rfl,zaA,w64s i (by omega)]
 have hR:Rn [v0]:=⟨by simp,by simp,fun s hs=>by rw[aY.1 hs];omega⟩;unfold ziW;have e0:zjC v0=some (kyL [v0]):=by unfold zjC;rw[yxN (by omega),zaA];rfl
 have e1:zlR v0 (kyL [v0])=some (.inr (kyL [v0],[v0])):=rfl;rw[e0,zaA,e1,zaA];simp only;rw[show iter _ ((0:Int),kyL [v0],[v0])=_ from key v1.length 0 [v0] hR (by omega) FU (by unfold FU;omega),zaA]
end Go.Proofs.YtmbcolbbekbccaaGreat.Am
namespace Go.Proofs.YtmbcolbbekbccaaGreat
open Go Go.RowKit
section
open Go Go.RowKit Go.ChangeShapes Go.WideShapes Go.ChangeAt
attribute [local irreducible] Value.okWide
theorem zuI:ownKnob Tryz.prog.godebug=none:=by kernel_rfl
theorem zpF(H:Type)(enc:TypeId×Value->H)(W:World)(base:Nat)(args:Array Value)(ds gs:List (DataW H))(before:List MemPlace) (hval:∀(j:Nat) t v,Tryz.f6.params[j]? = some t->args[j]? = some v->Value.okWide aD W .any base t v) (hW:DataW.Whole enc aD Tryz.f6.params.toList Rows.signRingMacsSpec.vars false W args.toList ds gs before) (hk:Rows.uptoSmall H (ds++gs)=true):Calls aD 6 args W fun e W'=>∃v,e = .returned v/\Rows.signRingMacsSpec.post enc aD Tryz.f6 false true false false W args v W':=by
 have hW':=hW;obtain⟨p,q,hA0,hV,rfl,_,_⟩:=hW;have hA:DataW.TrodAll enc aD W 0 (fun _=>true) true Tryz.f6.params.toList args.toList ds p:=hA0;rw[Tryz.params6]at hA hval;obtain⟨v0,vs0,d0,ds0,p0,q0,hargs,rfl,rfl,t0,r0⟩:=trodAll_cons hA;obtain⟨v1,vs1,d1,ds1,p1,q1,rfl,rfl,rfl,t1,r1⟩:=trodAll_cons r0;obtain⟨rfl,rfl,rfl⟩:=trodAll_nil r1;obtain rfl:args = #[v0,v1]:=by cases args;simp_all
 obtain⟨rfl,rfl⟩:=trodVars_none hV;obtain⟨x0,e0,b0⟩:=Am.argD_ok (t:=.s) (show Am.argOk aD 9 .s=true by kernel_rfl) (hval 0 9 v0 rfl rfl) t0;obtain⟨x1,e1,b1⟩:=Am.argD_ok (t:=(.sl (.pr (.i .i64) (.pr .s (.pr .s .s))))) (show Am.argOk aD 36 (.sl (.pr (.i .i64) (.pr .s (.pr .s .s))))=true by kernel_rfl) (hval 1 36 v1 rfl rfl) t1;simp only[List.append_nil,Rows.uptoSmall,zD,Rows.uptoBulkAll]at hk;refine((Am.yiY (tabs:=[])).ok (zrV W) W [v0,v1] (x0,x1) true (fun p hp=>by cases hp) (subMem W) (.cons (Am.rep1_vr e0) (.cons (Am.rep1_vr e1) .nil)) (Am.ykP x0 x1 (by omega))).mono fun e W' ⟨hx,v,he,hr,_⟩=>?_;have hr:[v]=[Value.bool true]:=hr;rw[(List.cons.inj hr).1]at he;subst he;refine⟨_,rfl,ywG (B:=4) (n:=2) (by kernel_rfl) rfl (by kernel_rfl) (by kernel_rfl) (by kernel_rfl) (by kernel_rfl) (fun ds hds=>?_) hW' hx⟩
 match ds,hds with
 |[x0,x1],_=>exact⟨rfl,rfl,rfl⟩
set_option maxRecDepth 100000 in
theorem zqM(os:Os)(started:os.Started)(H:Type)(enc:TypeId×Value->H)(F:Stop.Interp):
  ReturnsInHanded {} Tryz.checked os 6 .any ((Rows.OpenSpec.upto Rows.signRingMacsSpec).pre6 enc aD Tryz.f6 Rows.signRingMacsUptoRow.domain false) (((Rows.OpenSpec.upto Rows.signRingMacsSpec).at F).post enc aD Tryz.f6 false true false false):=by
 refine returnsInHanded_of_cond (C:=Tryz.checked) (s:=Rows.OpenSpec.upto Rows.signRingMacsSpec) (k:=Rows.uptoSmall) rfl zuI started (by kernel_rfl) Tryz.func6
  (OpenSpec.witness (enc:=enc) (C:=Tryz.checked) (s:=Rows.OpenSpec.upto Rows.signRingMacsSpec) (k:=Rows.uptoSmall) rfl false ⟨#[],#[.string ⟨#[]⟩,.slice none 0 0],[]⟩ 8 (by kernel_rfl) (by kernel_rfl) (by kernel_rfl)
   (x:=([.lit (.string []),.nil],[],[])) (by kernel_rfl) rfl (by kernel_rfl)) ?_
 intro W base args ds gs before hval hW _ hk _;exact zpF H enc W base args ds gs before hval hW hk
theorem signRingMacs_said : Rows.SignRingMacsUptoSaid :=
 OpenClaim.holds_of_cond 6 Tryz.f6 rfl rfl rfl rfl rfl rfl rfl ⟨rfl,rfl,rfl,rfl,rfl⟩ rfl rfl rfl rfl rfl (by as_aux_lemma=>kernel_rfl) Tryz.func6 (by as_aux_lemma=>kernel_rfl)
  (zC (by kernel_rfl)) (by unfold Func.isWrapper;first|(rw[zH (by decide +kernel)];kernel_rfl)|(rw[zG (by decide +kernel)];exact⟨rfl,rfl⟩))
  (fun os started H enc _ F=>zqM os started H enc F)
end
end Go.Proofs.YtmbcolbbekbccaaGreat
