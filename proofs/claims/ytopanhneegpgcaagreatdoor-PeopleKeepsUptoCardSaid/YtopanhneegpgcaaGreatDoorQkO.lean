/- Parts of one proof. Conditions: as each theorem says. -/
import Derived.Test.YtopanhneegpgcaaGreatDoorRows
import Derived.Test.YtopanhneegpgcaaGreatDoorTie
import Derived.Test.YtopanhneegpgcaaGreatDoorCards
import Derived.ProofKit
import Derived.OpenShut
import Derived.Carry
import Derived.JoinedCond
import Derived.ChangeMaps5
import Derived.Deep.SlicePairs
import Derived.Deep.DeepHandedRow
import Derived.Lib.LaidTab
import Derived.SevenTiedAt
import Derived.KernelRfl
import Derived.Test.YtopanhneegpgcaaGreatDoorQkN
open Array renaming length_toList->gG
open Bool renaming and_eq_true->aH,or_eq_true->bX
open Int renaming toNat_natCast->cK
open List renaming all_eq_true->bK,append_assoc->aV,append_cancel_left->gZ,append_nil->bQ,drop_drop->eM,drop_eq_getElem_cons->cG,drop_eq_nil_of_le->fA,drop_length->dU,drop_zero->cO,ext_getElem?->bD,flatten_cons->eG,flatten_nil->fU,getElem?_drop->bJ,getElem?_eq_getElem->aJ,getElem?_eq_none->cX,getElem?_eq_some_iff->aC,getElem?_take->cF,getElem_mem->bT,length_append->aD,length_cons->aS,length_drop->bM,length_map->aI,length_nil->bZ,map->cH,map_append->cN,map_cons->bG,map_map->eA,map_nil->dN,mem_append->bI,mem_cons->aL,mem_cons_of_mem->aN,mem_cons_self->aO,mem_map->bF,mem_singleton->aZ,nil_append->bR,nodup_append->eI,pairwise_map->cT,sum_cons->gX,take_add_one->iT,take_of_length_le->eE
open Nat renaming add_mul->bN,beq->aG,ble->bW,eq_of_beq_eq_true->aA,eq_zero_or_pos->eF,le_refl->aK,le_trans->aY,mul_le_mul_left->iJ,one_mul->dR,sub_add_cancel->fM,zero_le->bS
open Option renaming bind->aP,bind_eq_some_iff->eU,isSome_none->gP,toList_some->iO
open Go.Proofs.Tryz renaming prog->aB
namespace Go.Proofs.YtopanhneegpgcaaGreatDoor.Am
open Go Go.RowKit
theorem ri_keysB{γ:Type}{es:List (L8×γ)}(hR:Ri kltS es):zsQ (es.map (·.1))=true:=ydZ.2 (cT.2 hR)
theorem zrX{γ:Type}{es:List (L8×γ)}(hR:Ri kltS es)(hl:es.length<=1048576)(hk:∀p∈es,p.1.length<=68719476736):zkZ es=some (es.map (·.1),es):=by unfold zkZ ygS;rw[zA hl,ri_keysB hR,bK.2 fun p hp=>zA (hk p hp)];rfl
theorem zvO{γ δ:Type}{es:List (L8×γ)}{body:Int×List (L8×γ)×List δ->Option ((Int×List (L8×γ)×List δ)⊕(List (L8×γ)×List δ))}{tell:L8×γ->δ}(hl:es.length<=1048576) (hb:∀(i:Nat) (hi:i<es.length) (acc:List δ),acc.length<=1048576->body ((i:Int),es,acc)=some (.inl (((i+1:Nat):Int),es,acc++[tell es[i]]))) (he:∀acc,body ((es.length:Int),es,acc)=some (.inr (es,acc))):iter body ((0:Int),es,([]:List δ))=some (es,es.map tell):=by
 have key:∀(f i:Nat) (acc:List δ),f+i=es.length->acc.length+f<=1048576->∀g,f<g->zrW body g ((i:Int),es,acc)=some (es,acc++(es.drop i).map tell):=by
  intro f;induction f with
  |zero=>
   intro i acc hi _ g hg;obtain⟨g,rfl⟩:∃m,g=m+1:=⟨g-1,by omega⟩;have hi:i=es.length:=by omega
   subst hi;rw[zeS (he acc),dU,dN,bQ]
  |succ f ih=>
   intro i acc hi ha g hg;obtain⟨g,rfl⟩:∃m,g=m+1:=⟨g-1,by omega⟩;have hlt:i<es.length:=by omega
   rw[zdP (hb i hlt acc (by omega)),ih (i+1) _ (by omega) (by simp;omega) g (by omega),cG hlt,bG,aV];rfl
 have:=key es.length 0 [] (by omega) (by simp;omega) FU (by unfold FU;omega);rw[cO,bR]at this;exact this
def usE(s:PS):List Us:=s.1.map (·.2)
def grE(s:PS):List (L8×List L8×List L8×List L8×Int):=s.2.1.map fun p=>(p.1,p.2.1.1,p.2.1.2.1,p.2.1.2.2,p.2.2)
def roE(s:PS):List Ro:=s.2.2.1.map (·.2)
def clE(s:PS):List Cl:=s.2.2.2.1.map (·.2)
def maE(s:PS):List (L8×L8):=s.2.2.2.2.map (·.1)
theorem ykO{n:Nat}(h:n<=1048576):chk (decide ((0:Int)<=(n:Int))&&decide ((n:Int)<=(LIM:Int)))=some ():=by rw[zA (show(0:Int)<=(n:Int) by omega),zA (show(n:Int)<=(LIM:Int) by unfold LIM;omega)];rfl
theorem mk0{α:Type}(z:α):Go.Proofs.YtopanhneegpgcaaGreatDoor.mkL (0:Int) z=some []:=rfl
theorem get_at{γ:Type}{es:List (L8×γ)}(hR:Ri kltS es){i:Nat}(hi:i<es.length)(z:γ):zdW keqS es es[i].1 z=es[i].2:=by rw[zrM,kS.get_mem hR (k:=es[i].1) (v:=es[i].2) (bT hi)];rfl
theorem yjY{γ:Type}{es:List (L8×γ)}{i:Nat}(hi:i<es.length):idx (es.map (·.1)) (i:Int)=some es[i].1:=by rw[zhZ rfl (by rw[aI];exact hi),List.getElem_map]
theorem users_ok{B:Int}{s:PS}(h:PInv B s):zfT zaB s.1 s.2.1 s.2.2.1 s.2.2.2.1 s.2.2.2.2=some (s.1,s.2.1,s.2.2.1,s.2.2.2.1,s.2.2.2.2,usE s):=by
 have hl:=h.uL;unfold zfT zqP zyP;rw[ykO (by omega),zaA,mk0,zaA,zaA,zrX h.uR (by omega) fun p hp=>aY (zkD (h.us p.1 p.2 hp).2.1) (by decide),zaA];rw[zvO (es:=s.1) (tell:=fun p:L8×Us=>p.2) (by omega) (fun i hi acc ha=>?_) fun acc=>?_,zaA,zaA]
 ·rfl
 ·unfold zpF zhF;simp only;rw[zfQ (by rw[aI];omega),yjY hi,zaA,get_at h.uR hi,zaA,zjP (by simp;omega),zaA,zoU (by omega)]
 ·unfold zpF;simp only;rw[zgE (by rw[aI];omega)]
theorem xaI{B:Int}{s:PS}(h:PInv B s):zfD zaB s.1 s.2.1 s.2.2.1 s.2.2.2.1 s.2.2.2.2=some (s.1,s.2.1,s.2.2.1,s.2.2.2.1,s.2.2.2.2,grE s):=by
 have hl:=h.gL;unfold zfD zqY zpZ;rw[ykO (by omega),zaA,mk0,zaA,zaA,zrX h.gR (by omega) fun p hp=>aY (zkD (h.gn p.1 p.2 hp).1) (by decide),zaA];rw[zvO (es:=s.2.1) (tell:=fun p:L8×Gr=>(p.1,p.2.1.1,p.2.1.2.1,p.2.1.2.2,p.2.2)) (by omega) (fun i hi acc ha=>?_) fun acc=>?_,zaA,zaA]
 ·rfl
 ·have hm:(s.2.1[i].1,s.2.1[i].2)∈s.2.1:=bT hi;have e:∀l:List L8,l.length<=64->zgW zaB l=some l:=fun l hl=>by unfold zgW;rw[zjI _ (by omega),zaA]
  unfold zpD;simp only;rw[zfQ (by rw[aI];omega),yjY hi,zaA,get_at h.gR hi];unfold zwX;rw[e s.2.1[i].2.1.1 (h.lst_len hm (i:=0) (by decide)),zaA,e s.2.1[i].2.1.2.1 (h.lst_len hm (i:=1) (by decide)),zaA,e s.2.1[i].2.1.2.2 (h.lst_len hm (i:=2) (by decide)),zaA,zaA,zjP (by simp;omega),zaA,zoU (by omega)]
 ·unfold zpD;simp only;rw[zgE (by rw[aI];omega)]
theorem yzY{r:Ro}(h:yjE r=true):r.2.length<=16:=by unfold yjE ycN at h;simp only[aH,zD]at h;exact h.2.2
theorem ylK{c:Cl}(h:cliB c=true):c.2.2.1.length<=16/\c.2.2.2.1.length<=16:=by unfold cliB ycN at h;simp only[aH,zD]at h;exact⟨h.1.2.2,h.2.2⟩
theorem roles_ok{B:Int}{s:PS}(h:PInv B s):zfS zaB s.1 s.2.1 s.2.2.1 s.2.2.2.1 s.2.2.2.2=some (s.1,s.2.1,s.2.2.1,s.2.2.2.1,s.2.2.2.2,roE s):=by
 have hl:=h.rL;unfold zfS zqS zzE
 rw[ykO (by omega),zaA,mk0,zaA,zaA,zrX h.rR (by omega) fun p hp=>by
  have h1:=h.ro p.1 p.2 hp;have h2:=zaR h1.2;rw[h1.1]at h2
  exact aY (zkD h2) (by decide),zaA]
 rw[zvO (es:=s.2.2.1) (tell:=fun p:L8×Ro=>p.2) (by omega) (fun i hi acc ha=>?_) fun acc=>?_,zaA,zaA]
 ·rfl
 ·have hm:(s.2.2.1[i].1,s.2.2.1[i].2)∈s.2.2.1:=bT hi;have h1:=yzY (h.ro _ _ hm).2;unfold zpE zhE;simp only;rw[zfQ (by rw[aI];omega),yjY hi,zaA,get_at h.rR hi,yrG (by omega),zaA,zaA,zjP (by simp;omega),zaA,zoU (by omega)]
 ·unfold zpE;simp only;rw[zgE (by rw[aI];omega)]
theorem cli_nm{c:Cl}(h:cliB c=true):nmB c.1=true:=by unfold cliB at h;simp only[aH]at h;exact h.1.1.1
theorem yxU{B:Int}{s:PS}(h:PInv B s):zeQ zaB s.1 s.2.1 s.2.2.1 s.2.2.2.1 s.2.2.2.2=some (s.1,s.2.1,s.2.2.1,s.2.2.2.1,s.2.2.2.2,clE s):=by
 have hl:=h.cL;unfold zeQ zsI zqF
 rw[ykO (by omega),zaA,mk0,zaA,zaA,zrX h.cR (by omega) fun p hp=>by
  have h1:=h.cl p.1 p.2 hp;have h2:=cli_nm h1.2;rw[h1.1]at h2
  exact aY (zkD h2) (by decide),zaA]
 rw[zvO (es:=s.2.2.2.1) (tell:=fun p:L8×Cl=>p.2) (by omega) (fun i hi acc ha=>?_) fun acc=>?_,zaA,zaA]
 ·rfl
 ·have hm:(s.2.2.2.1[i].1,s.2.2.2.1[i].2)∈s.2.2.2.1:=bT hi;have h1:=ylK (h.cl _ _ hm).2;unfold zrA zgB;simp only;rw[zfQ (by rw[aI];omega),yjY hi,zaA,get_at h.cR hi,ysQ (by omega) (by omega),zaA,zaA,zjP (by simp;omega),zaA,zoU (by omega)]
 ·unfold zrA;simp only;rw[zgE (by rw[aI];omega)]
theorem yqB:∀{l:List (L8×L8)},(l.Pairwise fun x y=>kltM x y=true)->yfE l=true
 |[],_=>rfl|[_],_=>rfl|x::y::l,h=>by have hc:=List.pairwise_cons.1 h;unfold yfE;rw[aH];exact⟨hc.1 y aO,yqB hc.2⟩
theorem mays_ok{B:Int}{s:PS}(h:PInv B s):zgH zaB s.1 s.2.1 s.2.2.1 s.2.2.2.1 s.2.2.2.2=some (maE s,s):=by
 have hl:=h.mL;unfold zgH zzR;rw[zaA];have e:ycK s.2.2.2.2=some (s.2.2.2.2.map (·.1),s.2.2.2.2):=by unfold ycK;rw[zA (by omega),yqB (cT.2 h.mR)];rfl
 rw[e,zaA];rfl
inductive InG (G:GM) (u:L8):L8->Prop
 |dir {n:L8} {g:Gr}:(n,g)∈G->u∈lst 0 g->InG G u n
 |sub {n x:L8} {g:Gr}:(n,g)∈G->x∈lst 1 g->InG G u x->InG G u n
theorem InG.key{G:GM}{u n:L8}(h:InG G u n):mhas keqS G n=true:=by
 cases h with
 |dir h _=>exact kS.has_iff.2 ⟨_,h⟩|sub h _ _=>exact kS.has_iff.2 ⟨_,h⟩
end Go.Proofs.YtopanhneegpgcaaGreatDoor.Am
namespace Go.Proofs.YtopanhneegpgcaaGreatDoor
open Go Go.RowKit
section
open Go Go.RowKit Go.ChangeShapes Go.WideShapes Go.ChangeAt
section
variable {H:Type}{enc:TypeId×Value->H}{P:Program}{W W':World}
theorem yiH(hl:laidOutB P=true)(hx:Below W.heap.size W W'):∀{ts:List TypeId} {vs:LV} {ds:List (DataW H)} {ps:List MemPlace},ts.all (fun t=>P.readableRec t&&decide (t<P.types.size))=true ->
  DataW.TrodAll enc P W 0 (fun _=>true) true ts vs ds ps->(∀x∈ps,x.block<W.heap.size)->DataW.TrodAll enc P W' 0 (fun b=>decide (b<W.heap.size)) true ts vs ds ps
 |[],vs,ds,ps,_,h,_=>by obtain⟨rfl,rfl,rfl⟩:=trodAll_nil h;exact trodAll_mk0
 |t::ts,vs,ds,ps,ha,h,hlt=>by
  obtain⟨v,vs',d,ds',p,q,rfl,rfl,rfl,h0,hr⟩:=trodAll_cons h;simp only[List.all_cons,aH,zD]at ha
  exact trodAll_cons_mk (Below.trod hl ha.1.1 ha.1.2 h0 hx fun x hx=>hlt x (bI.2 (.inl hx)))
   (yiH hl hx ha.2 hr fun x hx=>hlt x (bI.2 (.inr hx)))
theorem trodAll_length:∀{ts:List TypeId} {vs:LV} {ds:List (DataW H)} {ps:List MemPlace} {w:World} {b:Nat} {sp:Nat->Bool} {hd:Bool},DataW.TrodAll enc P w b sp hd ts vs ds ps->vs.length=ts.length/\ds.length=ts.length
 |[],vs,ds,ps,_,_,_,_,h=>by obtain⟨rfl,rfl,rfl⟩:=trodAll_nil h;exact⟨rfl,rfl⟩
 |t::ts,vs,ds,ps,_,_,_,_,h=>by obtain⟨v,vs',d,ds',p,q,rfl,rfl,rfl,h0,hr⟩:=trodAll_cons h;have:=trodAll_length hr;simp[this.1,this.2]
theorem law_post{f:Func}{s:ChangeSpec}{args:Array Value}{ds gs:List (DataW H)}{before:List MemPlace}{B:TypeId}{n:Nat}(hl:laidOutB P=true)(hv:s.vars=[]) (hp:f.params.toList.all (fun t=>P.readableRec t&&decide (t<P.types.size))=true) (hn:f.params.toList.length=n) (hB:P.underlying B=some .bool) (hr:f.resultTypes = #[B]) (hfn:∀ds:List (DataW H),ds.length=n->(s.fn H (ds++[])).results=[.lit (.bool true)]/\(s.fn H (ds++[])).args=ds/\(s.fn H (ds++[])).vars=[]) (hW:DataW.Whole enc P f.params.toList s.vars false W args.toList ds gs before) (hx:Ext W W'):s.post enc P f false true false false W args (.bool true) W':=by
 have hW':=hW;obtain⟨p,q,hA,hV,rfl,_,_⟩:=hW;rw[hv]at hV;obtain⟨rfl,rfl⟩:=trodVars_none hV;have hA:DataW.TrodAll enc P W 0 (fun _=>true) true f.params.toList args.toList ds p:=hA;have hlen:=trodAll_length hA;obtain⟨f1,f2,f3⟩:=hfn ds (hlen.2.trans hn);refine⟨ds,[],p++[],[],p,[],hW',?_,?_,?_,Below.frame hx _,fun h=>by cases h⟩
 ·rw[f1,hr];exact trodAll_mk1 (shut_bool hB _)
 ·rw[f2];exact yiH hl hx hp hA fun x hxp=>by simpa using hW'.lt x (by simp[hxp])
 ·rw[f3,hv];exact rfl
variable {b0:Nat}{T E:TypeId}{v:Value}
theorem rowAt_le{fits:TypeId->Bool}:∀{d:Nat} {e:TypeId} {count off n:Nat},rowAt P fits d e count off n=true->off<=count*P.cellsOf e
 |0,_,_,_,_,h=>by simp[rowAt]at h
 |d+1,e,count,off,n,h=>by
  unfold rowAt at h;by_cases hs:P.cellsOf e=0
  ·simp[hs]at h
  ·have hd:=Nat.div_add_mod off (P.cellsOf e);have hm:=Nat.mod_lt off (Nat.pos_of_ne_zero hs);simp only[hs,if_false,bX,aH,zD,beq_iff_eq]at h;rcases h with⟨⟨h1,h2⟩,_⟩|⟨h1,_⟩
   ·have h3:P.cellsOf e*(off/P.cellsOf e)<=P.cellsOf e*count:=iJ _ (by omega);rw[Nat.mul_comm count];omega
   ·have h3:P.cellsOf e*(off/P.cellsOf e+1)<=P.cellsOf e*count:=iJ _ (by omega);rw[Nat.mul_add,Nat.mul_one]at h3;rw[Nat.mul_comm count];omega
theorem ynW:∀{d:Nat} {e:TypeId} {count off:Nat} {u:TypeId} {n:Nat},liesAt P d e count off u n=true->off<=count*P.cellsOf e
 |0,_,_,_,_,_,h=>by simp[liesAt]at h
 |d+1,e,count,off,u,n,h=>by
  unfold liesAt at h;rw[bX]at h;rcases h with h|h
  ·exact rowAt_le h
  ·split at h
   ·exact ynW h
   ·cases h
theorem ok_place{a:Addr}{len cap:Nat}(hu:P.underlying T=some (.slice E))(h:Value.okWide P W .any b0 T (.slice (some a) len cap)):
  a.spot=none/\∃cs R fz,W.heap[a.block]? = some (.cells cs R fz)/\a.off<=cs.size:=by
 simp only[Value.okWide,Cell.okWide,Cell.ok,hu]at h;obtain⟨_,_,_,h2,row,cells,h3,h4⟩:=h;refine⟨h2,?_⟩;unfold World.shape? at h3;split at h3
 ·rename_i c elem fz hb;simp only[Option.some.injEq,Prod.mk.injEq]at h3;obtain⟨rfl,rfl⟩:=h3;have h5:=ynW h4;have h6:=Nat.div_mul_le_self c.size (P.cellsOf elem);exact⟨c,_,fz,hb,by omega⟩
 ·cases h3
theorem ok_slice(hu:P.underlying T=some (.slice E))(h:Value.okWide P W .any b0 T v):v = .slice none 0 0∨∃a len cap,v = .slice (some a) len cap:=by
 simp only[Value.okWide,Cell.okWide,Cell.ok,hu]at h;cases v with
 |slice a len cap=>
  cases a with
  |none=>
   left;cases len with
   |zero=>cases cap with
    |zero=>rfl|succ n=>simp at h
   |succ n=>simp at h
  |some a=>exact .inr ⟨a,len,cap,rfl⟩
 |_=>simp at h
theorem yuA{l r:List (DataW H)}:Rows.uptoBulkAll (l++r)=Rows.uptoBulkAll l+Rows.uptoBulkAll r:=by
 induction l with
 |nil=>simp[Rows.uptoBulkAll]|cons x l ih=>simp only[List.cons_append,Rows.uptoBulkAll,ih];omega
end
end
end Go.Proofs.YtopanhneegpgcaaGreatDoor
namespace Go.Proofs.YtopanhneegpgcaaGreatDoor.Am
open Go Go.RowKit Go.ChangeShapes Go.WideShapes Go.ChangeAt
def dsz:(t:Ty)->den t->Nat
 |.s,x=>List.length x+1|.pr a c,x=>dsz a x.1+dsz c x.2|.un,_=>0|.sl e,x=>(cH (dsz e) x).sum+1|_,_=>1
def fOk(q:TypeId->Ty->Bool)(c:TypeId->Nat):List Field->Nat->Ty->Bool
 |[],_,t=>match t with
  |.un=>true|_=>false
 |[f],off,t=>(q f.type t&&(aG f.offset off&&aG (c f.type) (tsz t)))||(match t with
  |.pr a .un=>q f.type a&&(aG f.offset off&&aG (c f.type) (tsz a))|_=>false)
 |f::g::fs,off,t=>match t with
  |.pr a r=>(q f.type a&&(aG f.offset off&&aG (c f.type) (tsz a)))&&fOk q c (g::fs) (off+tsz a) r|_=>false
def tyOk(P:Program):Nat->TypeId->Ty->Bool
 |0,_,_=>false|n+1,T,t=>match P.underlying T,t with
  |some (.int k),.i k'=>(ikEq k k').isSome|some .bool,.b=>true|some .string,.s=>true|some (.slice E),.sl e=>tyOk P n E e&&(aG (P.cellsOf E) (tsz e)&&Nat.blt 0 (tsz e))|some (.struct fs),t=>(aG (P.cellsOf T) (tsz t) && !(one t))&&fOk (tyOk P n) P.cellsOf fs.toList 0 t|_,_=>false
section
variable {H:Type}{enc:TypeId×Value->H}{P:Program}{W:World}{sp:Nat->Bool}{S:Mem}
theorem toI_wf:∀{k:IntKind} {n:Int},(Lit.int k n).wf=true->toI k (ofI k n)=n:=fun {k n} h=>by rw[yyN];cases k<;>simp[Lit.wf,IntKind.min,IntKind.max,IntKind.signed,IntKind.bits]at h<;>simp[IntKind.wrap,IntKind.signed,IntKind.bits]<;>omega
theorem yqI{a c:Ty}{cs:LV}{x:den a}{y:den c}(hx:rep a S (cs.take (tsz a)) x)(hy:rep c S (cs.drop (tsz a)) y):rep (.pr a c) S cs (x,y):=
 ⟨_,_,(List.take_append_drop (tsz a) cs).symm,hx,hy⟩
theorem rep_un:rep .un S ([]:LV) ():=rfl
theorem yoT{q:TypeId->Ty->Bool}{fuel:Nat}(hq:∀(T:TypeId) (t:Ty),q T t=true->∀cs d ps,DataW.trod enc P W 0 sp true fuel T cs=some (d,ps)->∃x:den t,rep t S cs x/\dsz t x<=Rows.uptoBulk d){cs:LV}:∀(fs:List Field) (off:Nat) (t:Ty) (xs:List (DataW H×List MemPlace)),fOk q P.cellsOf fs off t=true->cs.length=off+tsz t ->
   A2 (fun(f:Field) y=>DataW.trod enc P W 0 sp true fuel f.type ((cs.drop f.offset).take (P.cellsOf f.type))=some y) fs xs ->
   ∃x:den t,rep t S (cs.drop off) x/\dsz t x<=Rows.uptoBulkAll (xs.map (·.1))
 |[],off,t,xs,h,hl,hA=>by
  cases t<;>simp only[fOk]at h<;>try (cases h;done)
  cases hA;refine⟨(),?_,bS _⟩;rw[fA (by rw[hl];exact aK _)];exact rep_un
 |[f],off,t,xs,h,hl,hA=>by
  cases hA with
  | @cons _ y _ _ h1 h2=>
   cases h2;simp only[fOk,bX]at h;rcases h with h|h
   ·rw[aH,aH]at h;obtain⟨h0,h2,h3⟩:=h;have h2:=aA h2;have h3:=aA h3;obtain⟨x,hx,hd⟩:=hq _ _ h0 _ _ _ h1;refine⟨x,?_,by simp only[bG,dN,Rows.uptoBulkAll];omega⟩;rw[h2,h3,eE (by rw[bM];omega)]at hx;exact hx
   ·cases t with
    |pr a c=>
     cases c with
     |un=>rw[aH,aH]at h;obtain⟨h0,h2,h3⟩:=h;have h2:=aA h2;have h3:=aA h3;obtain⟨x,hx,hd⟩:=hq _ _ h0 _ _ _ h1;rw[h2,h3]at hx;have hl:cs.length=off+tsz a:=hl;refine⟨(x,()),yqI hx ?_,by simp only[bG,dN,Rows.uptoBulkAll];show dsz a x+0<=_;omega⟩;rw[fA (by rw[bM];omega)];exact rep_un
     |_=>simp at h
    |_=>simp at h
 |f::g::fs,off,t,xs,h,hl,hA=>by
  cases t with
  |pr a r=>
   simp only[fOk]at h;rw[aH,aH,aH]at h;obtain⟨⟨h1,h2,h3⟩,h4⟩:=h;have h2:=aA h2;have h3:=aA h3;have hl:cs.length=off+(tsz a+tsz r):=hl;cases hA with
   | @cons _ y _ ys g1 g2=>obtain⟨x,hx,hd⟩:=hq _ _ h1 _ _ _ g1;obtain⟨z,hz,he⟩:=yoT hq (g::fs) (off+tsz a) r ys h4 (by omega) g2;rw[h2,h3]at hx;refine⟨(x,z),yqI hx (by rw[eM];exact hz),?_⟩;simp only[bG,Rows.uptoBulkAll];show dsz a x+dsz r z<=_;omega
  |_=>simp[fOk]at h
theorem A2_get{α β:Type}{R:α->β->Prop}:∀{l:List α} {m:List β},l.length=m.length->(∀(i:Nat) (a:α) (b:β),l[i]? = some a->m[i]? = some b->R a b)->A2 R l m
 |[],[],_,_=>.nil|[],_::_,h,_=>by cases h
 |_::_,[],h,_=>by cases h
 |a::l,b::m,h,hR=>.cons (hR 0 a b rfl rfl) (A2_get (by simpa using h) fun i a b ha hb=>hR (i+1) a b (by simpa using ha) (by simpa using hb))
theorem xeT{e:Ty}:∀{xs:List (den e)} {cs ds:LV} {x:den e},@RL (den e) (rpD e) S cs xs->rep e S ds x->@RL (den e) (rpD e) S (cs++ds) (xs++[x])
 |[],cs,ds,x,h,hx=>by have h:cs=[]:=h;subst h;exact⟨ds,[],by simp,hx,rfl⟩
 |y::xs,cs,ds,x,h,hx=>by obtain⟨c,d,rfl,h1,h2⟩:=h;exact⟨c,d++ds,by simp,h1,xeT h2 hx⟩
theorem sl_of{T E:TypeId}{e:Ty}{fuel:Nat}(hu:P.underlying T=some (.slice E))(hc:P.cellsOf E=tsz e)(hz:0<tsz e)(hq:∀(m:Nat) (cs:LV) (d:DataW H) (ps:List MemPlace),DataW.trod enc P W 0 (fun _=>true) true m E cs=some (d,ps)->∃x:den e,rep e (ybZ W) cs x/\dsz e x<=Rows.uptoBulk d){cs:LV}{d:DataW H}{ps:List MemPlace}(hd:DataW.trod enc P W 0 (fun _=>true) true fuel T cs=some (d,ps)):∃xs:List (den e),rep (.sl e) (ybZ W) cs xs/\dsz (.sl e) xs<=Rows.uptoBulk d:=by
 rcases DataW.trod_slice hu hd with⟨rfl,h2⟩|⟨a,len,cap,elems,rest,m,rfl,rfl,h2,_,hlc,_,hel,hget,hrest,_⟩
 ·cases h2;exact⟨[],⟨_,rfl,[],.inl ⟨⟨none,rfl⟩,rfl,rfl⟩,rfl⟩,aK _⟩
 ·cases h2;by_cases hcap:cap=0
  ·subst hcap;obtain rfl:len=0:=by omega
   refine⟨[],⟨_,rfl,[],.inl ⟨⟨some a,rfl⟩,rfl,rfl⟩,rfl⟩,?_⟩;show 0+1<=_;simp only[Rows.uptoBulk];omega
  have h0:∃us,W.cells? 0 a (P.cellsOf E)=some us:=by
   by_cases hl0:len=0
   ·subst hl0;obtain⟨g1,g2⟩:=hrest rfl;have g3:=g2 0 (by omega);rw[aJ (by omega:0<rest.length)]at g3;obtain⟨us,hus,_⟩:=eU.1 g3;rw[show a.add ((0+0)*P.cellsOf E)=a by simp[Addr.add]]at hus;exact⟨us,hus⟩
   ·have g3:=hget 0 (by omega);rw[aJ (by omega:0<elems.length)]at g3;obtain⟨us,hus,_⟩:=eU.1 g3;rw[show a.add (0*P.cellsOf E)=a by simp[Addr.add]]at hus;exact⟨us,hus⟩
  obtain⟨us,hus⟩:=h0;obtain⟨_,hul,huc⟩:=World.cells?_some hus;have hc0:=huc 0 (by omega);rw[show a.add 0=a by simp[Addr.add],aJ (by omega:0<us.length)]at hc0;obtain⟨blk,off,spot⟩:=a;obtain⟨cs,R,fz,hb,hsp,ho⟩:∃cs R fz,W.heap[blk]? = some (.cells cs R fz)/\spot=none/\off<=cs.size:=by
   unfold World.cell? at hc0
   dsimp only at hc0
   split at hc0
   ·rename_i c R fz hb;cases spot with
    |some s=>simp at hc0|none=>rw[zH (by simp)]at hc0;have:=(Array.getElem?_eq_some_iff.1 hc0).1;exact⟨c,R,fz,hb,rfl,Nat.le_of_lt this⟩
   ·cases hc0
  subst hsp;have ad:∀j,(⟨blk,off,none⟩:Addr).add j=⟨blk,off+j,none⟩:=fun j=>by simp[Addr.add]
  have each:∀i,i<len->∃y x,elems[i]? = some y/\rep e (ybZ W) (piece cs.toList (off+i*tsz e) (tsz e)) x/\dsz e x<=Rows.uptoBulk y.1/\off+(i+1)*tsz e<=cs.toList.length:=fun i hi=>by
   have hg:=hget i hi;obtain⟨y,hy⟩:∃y,elems[i]? = some y:=⟨_,aJ (by omega)⟩;rw[hy]at hg;obtain⟨us,hus,hg⟩:=eU.1 hg;obtain⟨_,hul,huc⟩:=World.cells?_some hus;obtain⟨x,hx,hdx⟩:=hq m us y.1 y.2 hg;rw[hc,ad]at huc;rw[hc]at hul;have hcell:∀j,j<tsz e->cs.toList[off+i*tsz e+j]? = us[j]?:=fun j hj=>by have:=huc j hj;rw[show(⟨blk,off+i*tsz e,none⟩:Addr).add j=⟨blk,off+i*tsz e+j,none⟩ by simp[Addr.add]]at this;simp only[World.cell?,hb,gP,zH (show ¬(false=true) by decide)]at this;simpa using this
   have hlen:off+(i+1)*tsz e<=cs.toList.length:=by have h1:=hcell (tsz e-1) (by omega);rw[aJ (by omega:tsz e-1<us.length)]at h1;have:=(aC.1 h1).1;rw[bN];omega
   refine⟨y,x,hy,?_,hdx,hlen⟩;have:piece cs.toList (off+i*tsz e) (tsz e)=us:=by
    apply bD;intro j;rw[zaS,cF];by_cases hj:j<tsz e
    ·rw[zI hj,bJ];exact hcell j hj
    ·rw[zH hj,cX (by omega)]
   rw[this];exact hx
  have key:∀k,k<=len->∃xs:List (den e),xs.length=k/\@RL (den e) (rpD e) (ybZ W) (piece cs.toList off (k*tsz e)) xs/\(cH (dsz e) xs).sum<=Rows.uptoBulkAll ((elems.take k).map (·.1)):=by
   intro k;induction k with
   |zero=>intro _;exact⟨[],rfl,by simp[piece,RL],bS _⟩|succ k ih=>
    intro hk;obtain⟨xs,h1,h2,h3⟩:=ih (by omega);obtain⟨y,x,g1,g2,g3,_⟩:=each k (by omega);refine⟨xs++[x],by simp[h1],?_,?_⟩
    ·have e2:piece cs.toList off ((k+1)*tsz e)=piece cs.toList off (k*tsz e)++piece cs.toList (off+k*tsz e) (tsz e):=by rw[zaS,zaS,zaS,bN,dR,List.take_add,eM]
     rw[e2];exact xeT h2 g2
    ·rw[iT,g1];simp only[iO,cN,bG,dN,List.sum_append,gX,List.sum_nil,yuA,Rows.uptoBulkAll];omega
  obtain⟨xs,h1,h2,h3⟩:=key len (aK _);have hfit:off+len*tsz e<=cs.toList.length:=by
   rcases eF len with h0|h0
   ·subst h0;rw[gG];omega
   ·obtain⟨_,_,_,_,_,h4⟩:=each (len-1) (by omega)
    rwa[fM h0]at h4
  refine⟨xs,⟨_,rfl,piece cs.toList off (len*tsz e),?_,h2⟩,?_⟩
  ·right;refine⟨blk,off,cap,cs.toList,R,fz,?_,by rw[h1];exact hlc,ygI hb rfl,?_,?_⟩
   ·rw[h1]
   ·rw[h1];show _+_*(rpD e).sz<=_;rw[zjH];exact hfit
   ·rw[h1];show piece _ _ (_*(rpD e).sz)=_;rw[zjH]
  ·rw[eE (by omega)]at h3;show(cH (dsz e) xs).sum+1<=_;simp only[Rows.uptoBulk];omega
theorem ynN:∀(n:Nat) (T:TypeId) (t:Ty),tyOk P n T t=true->∀(fuel:Nat) (cs:LV) (d:DataW H) (ps:List MemPlace),DataW.trod enc P W 0 (fun _=>true) true fuel T cs=some (d,ps)->∃x:den t,rep t (ybZ W) cs x/\dsz t x<=Rows.uptoBulk d
 |0,_,_,h,_,_,_,_,_=>by cases h
 |n+1,T,t,h,fuel,cs,d,ps,hd=>by
  unfold tyOk at h;split at h
  ·rename_i k k' hu;obtain⟨hk,_⟩:=Option.isSome_iff_exists.1 h;obtain rfl:=hk.down;obtain⟨m,rfl,he,hw⟩:=DataW.trod_int hu hd;cases he;exact⟨ofI _ m,(by show [Value.int _ m]=[.int _ (toI _ (ofI _ m))];rw[toI_wf hw]),aK 1⟩
  ·rename_i hu;obtain⟨b,rfl,he⟩:=DataW.trod_bool hu hd;cases he;exact⟨b,rfl,aK 1⟩
  ·rename_i hu;obtain⟨s,rfl,he,_⟩:=DataW.trod_string hu hd;cases he;exact⟨s.data.toList,(by show [Value.string s]=[str s.data.toList];simp[str]),aK _⟩
  ·rename_i E e hu;rw[aH,aH]at h;obtain⟨h1,h2,h3⟩:=h;exact sl_of hu (aA h2) (by rw[zmU]at h3;simpa using h3) (fun m cs d ps hd=>ynN n E e h1 m cs d ps hd) hd
  ·rename_i fs hu;rw[aH,aH]at h;obtain⟨⟨h1,_⟩,h2⟩:=h;have h1:=aA h1;obtain⟨xs,fuel,rfl,he,hl,hxl,hm⟩:=DataW.trod_struct hu hd;cases he;obtain⟨x,hx,hb⟩:=yoT (S:=ybZ W) (fuel:=fuel) (fun T' t' hq cs d ps=>ynN n T' t' hq fuel cs d ps) fs.toList 0 _ xs h2 (by rw[hl,h1];omega) (A2_get (by simp[hxl]) fun i f y hf hy=>(hm i f (by simpa using hf)).trans hy);exact⟨x,by simpa using hx,by simp only[Rows.uptoBulk];omega⟩
  ·cases h
variable {b0:Nat}{T E:TypeId}{v:Value}
theorem xfS{n:Nat}{e:Ty}(hu:P.underlying T=some (.slice E))(he:tyOk P n E e=true)(hc:P.cellsOf E=tsz e)(hz:0<tsz e)(h:Value.okWide P W .any b0 T v){d:DataW H}{ps:List MemPlace}(hd:DataW.Trod enc P W 0 (fun _=>true) true T v d ps):∃xs:List (den e),@RdS (den e) (rpD e) (ybZ W) v xs/\dsz (.sl e) xs<=Rows.uptoBulk d:=by
 obtain⟨fuel,hf⟩:=hd;have hv:=ok_slice hu h;have hcells:v.cells.toList=[v]:=by rcases hv with rfl|⟨a,len,cap,rfl⟩<;>rfl
 rw[hcells]at hf;rcases DataW.trod_slice hu hf with⟨h1,h2⟩|⟨a,len,cap,elems,rest,m,rfl,h1,h2,_,hlc,_,hel,hget,_,_⟩
 ·simp only[List.cons.injEq,and_true]at h1;subst h1;cases h2;exact⟨[],⟨[],.inl ⟨⟨none,rfl⟩,rfl,rfl⟩,rfl⟩,aK _⟩
 ·simp only[List.cons.injEq,and_true]at h1;subst h1;cases h2;obtain⟨hsp,cs,R,fz,hb,ho⟩:=ok_place hu h;obtain⟨blk,off,spot⟩:=a
  dsimp only at hsp hb ho
  subst hsp;have ad:∀j,(⟨blk,off,none⟩:Addr).add j=⟨blk,off+j,none⟩:=fun j=>by simp[Addr.add]
  have each:∀i,i<len->∃y x,elems[i]? = some y/\rep e (ybZ W) (piece cs.toList (off+i*tsz e) (tsz e)) x/\dsz e x<=Rows.uptoBulk y.1/\off+(i+1)*tsz e<=cs.toList.length:=fun i hi=>by
   have hg:=hget i hi;obtain⟨y,hy⟩:∃y,elems[i]? = some y:=⟨_,aJ (by omega)⟩;rw[hy]at hg;obtain⟨us,hus,hg⟩:=eU.1 hg;obtain⟨_,hul,huc⟩:=World.cells?_some hus;obtain⟨x,hx,hdx⟩:=ynN n E e he m us y.1 y.2 hg;rw[hc,ad]at huc;rw[hc]at hul;have hcell:∀j,j<tsz e->cs.toList[off+i*tsz e+j]? = us[j]?:=fun j hj=>by have:=huc j hj;rw[show(⟨blk,off+i*tsz e,none⟩:Addr).add j=⟨blk,off+i*tsz e+j,none⟩ by simp[Addr.add]]at this;simp only[World.cell?,hb,gP,zH (show ¬(false=true) by decide)]at this;simpa using this
   have hlen:off+(i+1)*tsz e<=cs.toList.length:=by have h1:=hcell (tsz e-1) (by omega);rw[aJ (by omega:tsz e-1<us.length)]at h1;have:=(aC.1 h1).1;rw[bN];omega
   refine⟨y,x,hy,?_,hdx,hlen⟩;have:piece cs.toList (off+i*tsz e) (tsz e)=us:=by
    apply bD;intro j;rw[zaS,cF];by_cases hj:j<tsz e
    ·rw[zI hj,bJ];exact hcell j hj
    ·rw[zH hj,cX (by omega)]
   rw[this];exact hx
  have key:∀k,k<=len->∃xs:List (den e),xs.length=k/\@RL (den e) (rpD e) (ybZ W) (piece cs.toList off (k*tsz e)) xs/\(cH (dsz e) xs).sum<=Rows.uptoBulkAll ((elems.take k).map (·.1)):=by
   intro k;induction k with
   |zero=>intro _;exact⟨[],rfl,by simp[piece,RL],bS _⟩|succ k ih=>
    intro hk;obtain⟨xs,h1,h2,h3⟩:=ih (by omega);obtain⟨y,x,g1,g2,g3,_⟩:=each k (by omega);refine⟨xs++[x],by simp[h1],?_,?_⟩
    ·have e2:piece cs.toList off ((k+1)*tsz e)=piece cs.toList off (k*tsz e)++piece cs.toList (off+k*tsz e) (tsz e):=by rw[zaS,zaS,zaS,bN,dR,List.take_add,eM]
     rw[e2];exact xeT h2 g2
    ·rw[iT,g1];simp only[iO,cN,bG,dN,List.sum_append,gX,List.sum_nil,yuA,Rows.uptoBulkAll];omega
  obtain⟨xs,h1,h2,h3⟩:=key len (aK _);have hfit:off+len*tsz e<=cs.toList.length:=by
   rcases eF len with h0|h0
   ·subst h0;rw[gG];omega
   ·obtain⟨_,_,_,_,_,h4⟩:=each (len-1) (by omega)
    rwa[fM h0]at h4
  refine⟨xs,⟨piece cs.toList off (len*tsz e),?_,h2⟩,?_⟩
  ·right;refine⟨blk,off,cap,cs.toList,R,fz,?_,by rw[h1];exact hlc,ygI hb rfl,?_,?_⟩
   ·rw[h1]
   ·rw[h1];show _+_*(rpD e).sz<=_;rw[zjH];exact hfit
   ·rw[h1];show piece _ _ (_*(rpD e).sz)=_;rw[zjH]
  ·rw[eE (by omega)]at h3;show(cH (dsz e) xs).sum+1<=_;simp only[Rows.uptoBulk];omega
def argOk(P:Program)(T:TypeId)(t:Ty):Bool:=match P.underlying T,t with
 |some (.slice E),.sl e=>tyOk P 8 E e&&(aG (P.cellsOf E) (tsz e)&&Nat.blt 0 (tsz e))|_,t=>tyOk P 8 T t
theorem argD_ok{t:Ty}(ha:argOk P T t=true)(h:Value.okWide P W .any b0 T v){d:DataW H}{ps:List MemPlace}(hd:DataW.Trod enc P W 0 (fun _=>true) true T v d ps):∃x:den t,rep1 t (ybZ W) v x/\dsz t x<=Rows.uptoBulk d:=by
 unfold argOk at ha;split at ha
 ·rename_i E e hu;rw[aH,aH]at ha;obtain⟨h1,h2,h3⟩:=ha;obtain⟨xs,g1,g2⟩:=xfS hu h1 (aA h2) (by rw[zmU]at h3;simpa using h3) h hd;exact⟨xs,⟨v,rfl,g1⟩,g2⟩
 ·obtain⟨fuel,hf⟩:=hd;obtain⟨x,hx,hb⟩:=ynN 8 T _ ha fuel _ _ _ hf;refine⟨x,?_,hb⟩;unfold rep1;unfold tyOk at ha;split at ha
  ·rename_i hu;have hv:v.cells.toList=[v]:=by simp only[Value.okWide,Cell.okWide,Cell.ok]at h;cases v<;>simp_all<;>rfl
   rw[hv]at hx;rw[zI (show one (.i _)=true from rfl)];exact hx
  ·rename_i hu;have hv:v.cells.toList=[v]:=by simp only[Value.okWide,Cell.okWide,Cell.ok]at h;cases v<;>simp_all<;>rfl
   rw[hv]at hx;rw[zI (show one .b=true from rfl)];exact hx
  ·rename_i hu;have hv:v.cells.toList=[v]:=by simp only[Value.okWide,Cell.okWide,Cell.ok]at h;cases v<;>simp_all<;>rfl
   rw[hv]at hx;rw[zI (show one .s=true from rfl)];exact hx
  ·rename_i hu hno;exact(hno _ _ hu rfl).elim
  ·rename_i fs hu _;rw[aH,aH]at ha;simp only[Value.okWide,hu]at h;obtain⟨cs,rfl,_,_⟩:=h;rw[zH (by simpa using ha.1.2)];exact⟨cs.toList,by simp,hx⟩
  ·cases ha
def posT:Ty->Bool
 |.un=>false|.pr a c=>posT a||posT c|_=>true
theorem ysI:∀{e:Ty},posT e=true->∀x:den e,1<=dsz e x
 |.i _,_,_=>aK 1|.b,_,_=>aK 1|.s,_,_=>Nat.le_add_left 1 _|.er,_,_=>aK 1|.sl _,_,_=>Nat.le_add_left 1 _|.mp _ _,_,_=>aK 1|.jk _,_,_=>aK 1|.pr a c,h,x=>by
  show 1<=dsz a x.1+dsz c x.2;have h:(posT a||posT c)=true:=h;rw[bX]at h;rcases h with h|h
  ·have:=ysI h x.1;omega
  ·have:=ysI h x.2;omega
theorem zyR{e:Ty}(he:posT e=true):∀xs:List (den e),xs.length+1<=dsz (.sl e) xs
 |[]=>aK 1|x::xs=>by have h1:=ysI he x;have h2:xs.length+1<=(cH (dsz e) xs).sum+1:=zyR he xs;show(x::xs).length+1<=(cH (dsz e) (x::xs)).sum+1;simp only[aS,bG,gX];omega
theorem rep1_vr{t:Ty}{S:Mem}{E:List EI}{v:Value}{x:den t}(h:rep1 t S v x):VR S E (svOf t x) v:=xdV (l:=[t]) h
end
end Go.Proofs.YtopanhneegpgcaaGreatDoor.Am
namespace Go.Proofs.YtopanhneegpgcaaGreatDoor.Am
open Go Go.RowKit
theorem dsz_in{e:Ty}{x:den e}:∀{xs:List (den e)},x∈xs->dsz e x<=dsz (.sl e) xs
 |y::ys,h=>by
  show _<=(cH (dsz e) (y::ys)).sum+1;simp only[bG,gX];rcases aL.1 h with rfl|h
  ·omega
  ·have:dsz e x<=(cH (dsz e) ys).sum+1:=dsz_in h;omega
abbrev opT:Ty:=.pr (.i .i64) (.pr (.i .i64) (.pr .s (.pr .s (.pr .b (.pr (.pr .s (.sl .s)) (.pr .s (.pr .s (.pr (.sl .s) (.pr (.sl .s) (.pr .b (.pr .b (.pr .b .b))))))))))))
theorem opok_of{o:Opr}{k:Nat}(h:dsz opT o<=k)(hk:k<=1048576):Opok o:=by have e:dsz opT o=1+(1+(o.2.2.1.length+1+(o.2.2.2.1.length+1+(1+((o.2.2.2.2.2.1.1.length+1+dsz (.sl .s) o.2.2.2.2.2.1.2)+(o.2.2.2.2.2.2.1.length+1+(o.2.2.2.2.2.2.2.1.length+1+(dsz (.sl .s) o.2.2.2.2.2.2.2.2.1+(dsz (.sl .s) o.2.2.2.2.2.2.2.2.2.1+(1+(1+(1+1)))))))))))):=rfl;have h1:o.2.2.2.2.2.1.2.length+1<=dsz (.sl .s) o.2.2.2.2.2.1.2:=zyR (e:=.s) rfl _;have h2:o.2.2.2.2.2.2.2.2.1.length+1<=dsz (.sl .s) o.2.2.2.2.2.2.2.2.1:=zyR (e:=.s) rfl _;have h3:o.2.2.2.2.2.2.2.2.2.1.length+1<=dsz (.sl .s) o.2.2.2.2.2.2.2.2.2.1:=zyR (e:=.s) rfl _;rw[e]at h;exact⟨by omega,by omega,by omega,by omega⟩
theorem ops_of{v:List Opr}{k:Nat}(h:dsz (.sl opT) v<=k)(hk:k<=1048576):(∀o∈v,Opok o)/\v.length<=1048576:=by have h1:v.length+1<=dsz (.sl opT) v:=zyR (e:=opT) rfl v;exact⟨fun o ho=>opok_of (aY (dsz_in (e:=opT) ho) h) hk,by omega⟩
abbrev s0:PS:=(([]:UM),([]:GM),([]:RM),([]:CM),([]:MM))
noncomputable def playE(v:List Opr)(s:PS):PS:=v.foldl (fun s o=>(ywQ o s).2) s
theorem yvM:∀(v:List Opr) (B:Int) (s:PS),1<=B->PInv B s->PInv (B+v.length) (playE v s)
 |[],B,s,_,h=>by show PInv (B+((0:Nat):Int)) s;rw[show B+((0:Nat):Int)=B by omega];exact h
 |o::v,B,s,hB,h=>by have:=yvM v (B+1) (ywQ o s).2 (by omega) (ywA hB h o);rw[show B+1+(v.length:Int)=B+((o::v).length:Int) by rw[aS];omega]at this;exact this
theorem new_ok:ziL zaB=some s0:=rfl
theorem zuY{α:Type}{l:List α}{i:Nat}(h:i<l.length):chk (decide ((0:Int)<=(i:Int))&&decide ((i:Int)<(l.length:Int)))=some ():=by rw[zA (show(0:Int)<=(i:Int) by omega),zA (show(i:Int)<(l.length:Int) by omega)];rfl
theorem ypC{σ β:Type}{body:Int×σ->Option ((Int×σ)⊕β)}{n:Nat}(hn:n<=1048576)(s:σ){b:β}(hb:∀i:Nat,i<n->body ((i:Int),s)=some (.inl (((i+1:Nat):Int),s)))(he:body ((n:Int),s)=some (.inr b)):iter body ((0:Int),s)=some b:=by
 have key:∀(f i:Nat),f+i=n->∀g,f<g->zrW body g ((i:Int),s)=some b:=by
  intro f;induction f with
  |zero=>
   intro i hi g hg;obtain⟨g,rfl⟩:∃m,g=m+1:=⟨g-1,by omega⟩;have hi:i=n:=by omega
   subst hi;exact zeS he
  |succ f ih=>intro i hi g hg;obtain⟨g,rfl⟩:∃m,g=m+1:=⟨g-1,by omega⟩;rw[zdP (hb i (by omega))];exact ih (i+1) (by omega) g (by omega)
 exact key n 0 (by omega) FU (by unfold FU;omega)
def dgE(b:Bool):L8:=bif b then [49]else [48]
def lisE(l:List L8):List L8:=Lib.decDigits l.length::l
abbrev GrT:Type:=L8×List L8×List L8×List L8×Int
def txC(c:Cl):List L8:=[c.2.1,dgE c.2.2.2.2.1++dgE c.2.2.2.2.2.1++dgE c.2.2.2.2.2.2.1++dgE c.2.2.2.2.2.2.2]++(lisE c.2.2.1++lisE c.2.2.2.1)
def txG(g:GrT):List L8:=[Lib.decDigits g.2.2.2.2.toNat]++(lisE g.2.1++(lisE g.2.2.1++lisE g.2.2.2.1))
def txU(u:Us):List L8:=[u.2.1,dgE u.2.2.1,Lib.decDigits u.2.2.2.toNat]
def rowC(c:Cl):L8×L8:=([99,108,105,101,110,116,47]++c.1,zkN (txC c))
def rowG(g:GrT):L8×L8:=([103,114,111,117,112,47]++g.1,zkN (txG g))
def rowM(m:L8×L8):L8×L8:=([109,97,121,47]++m.1++[124]++m.2,zkN [])
def rowR(r:Ro):L8×L8:=([114,111,108,101,47]++r.1,zkN (lisE r.2))
def rowU(u:Us):L8×L8:=([117,115,101,114,47]++u.1,zkN (txU u))
def yjH(s:PS):List (L8×L8):=(clE s).map rowC++((grE s).map rowG++((maE s).map rowM++((roE s).map rowR++(usE s).map rowU)))
def xfC(s:PS):List (L8×L8):=yfL (yjH s)
theorem ycZ(b:Bool):zfZ zaB b=some (dgE b):=by cases b<;>rfl
theorem ypR(b:Bool):(dgE b).length=1:=by cases b<;>rfl
theorem zvJ{l:List L8}(h:l.length<=1024):zcI zaB l=some (lisE l):=by unfold zcI;rw[ysY _ (by omega),zaA,zjP (by simp;omega),zaA];rfl
theorem yhG{n:Nat}(h:n<=1099511627777):(Lib.decDigits n).length<=1024:=aY (ymL 13 n (by decide) (by omega)) (by decide)
theorem ydO{l:List L8}(h:l.length<=1000)(ht:∀t∈l,t.length<=1024):(lisE l).length<=1001/\∀t∈lisE l,t.length<=1024:=by
 unfold lisE;refine⟨by simp;omega,fun t h'=>?_⟩;rcases aL.1 h' with rfl|h'
 ·exact yhG (by omega)
 ·exact ht t h'
theorem xfB{ls:List (List L8)}(h:∀l∈ls,l.length<=2000)(hl:ls.length<=8):zjB zaB ls=some ls.flatten:=by
 have k1:∀(f i a:Nat),f+i=ls.length->a<=2000*i->∀g,f<g->∃b:Nat,b<=16000/\zrW (fun x:Int×Int=>zhM zaB ls x.1 x.2) g ((a:Int),(i:Int))=some (b:Int):=by
  intro f;induction f with
  |zero=>intro i a hi ha g hg;obtain⟨g,rfl⟩:∃m,g=m+1:=⟨g-1,by omega⟩;refine⟨a,by omega,zeS ?_⟩;unfold zhM;simp only;rw[zgE (by omega)]
  |succ f ih=>
   intro i a hi ha g hg;obtain⟨g,rfl⟩:∃m,g=m+1:=⟨g-1,by omega⟩;have hlt:i<ls.length:=by omega
   have hll:=h _ (bT hlt);obtain⟨b,hb,e⟩:=ih (i+1) (a+ls[i].length) (by omega) (by omega) g (by omega);refine⟨b,hb,(zdP ?_).trans e⟩;unfold zhM;simp only;rw[zfQ (by omega),zhZ rfl hlt,zaA,show w64 ((a:Int)+(ls[i].length:Int))=((a+ls[i].length:Nat):Int) by rw[zsE (by omega) (by omega)];omega,zgE (by omega),zoU (by omega)]
 have k2:∀(f i:Nat) (acc:List L8),f+i=ls.length->acc.length<=2000*i->∀g,f<g->zrW (fun x:Int×List L8=>zhN zaB ls x.1 x.2) g ((i:Int),acc)=some (acc++(ls.drop i).flatten):=by
  intro f;induction f with
  |zero=>
   intro i acc hi ha g hg;obtain⟨g,rfl⟩:∃m,g=m+1:=⟨g-1,by omega⟩;have hi:i=ls.length:=by omega
   subst hi;rw[dU,fU,bQ];refine zeS ?_;unfold zhN;simp only;rw[zgE (by omega)]
  |succ f ih=>
   intro i acc hi ha g hg;obtain⟨g,rfl⟩:∃m,g=m+1:=⟨g-1,by omega⟩;have hlt:i<ls.length:=by omega
   have hll:=h _ (bT hlt);rw[cG hlt,eG,<-aV,<-ih (i+1) (acc++ls[i]) (by omega) (by rw[aD];omega) g (by omega)];refine zdP ?_;unfold zhN;simp only;rw[zfQ (by omega),zhZ rfl hlt,zaA,zjP (by omega),zaA,zoU (by omega)]
 obtain⟨b,hb,e1⟩:=k1 ls.length 0 0 (by omega) (by omega) FU (by unfold FU;omega);have e2:=k2 ls.length 0 [] (by omega) (by simp) FU (by unfold FU;omega);unfold zjB;rw[show iter (fun x:Int×Int=>zhM zaB ls x.1 x.2) ((0:Int),(0:Int))=_ from e1,zaA];have e3:ysH .s (b:Int)=some ([]:List L8):=by unfold ysH;rw[zA (show(0:Int)<=(b:Int) by omega),zA (show(b:Int)<=1048576 by omega)];rfl
 refine Eq.trans (bind_ok e3) ?_;rw[show iter (fun x:Int×List L8=>zhN zaB ls x.1 x.2) ((0:Int),([]:List L8))=_ from e2,zaA];rfl
theorem tx_len{s:L8}(h:txB s=true):s.length<=1024:=by
 by_cases hs:s.length<=1048576
 ·rw[tx_is s hs,aH,aH]at h;have:=zC h.1.2;omega
 ·exfalso;have h1:=xaG s;rw[h]at h1;unfold zcK at h1;have hne:(s != ([]:L8))=true:=by
   cases s with
   |nil=>exact absurd (bS _) hs|cons a l=>rfl
  rw[hne,zE,zgE (by omega)]at h1;cases h1
theorem sc_len{s:L8}(h:scB s=true):s.length<=1024:=by rw[sc_is,aH,aH]at h;have:=zC h.1.2;omega
theorem ycU{n:Nat}{may:L8->Bool}{l:List L8}(h:ycN n may l=true):(∀t∈l,may t=true)/\RiL l/\l.length<=n:=by unfold ycN at h;simp only[aH,zD,bK]at h;exact⟨h.1.1,ydZ.1 h.1.2,h.2⟩
theorem ypD{c:Cl}(h:cliB c=true):nmB c.1=true/\c.2.1.length<=64/\ycN 16 txB c.2.2.1=true/\ycN 16 scB c.2.2.2.1=true:=by
 unfold cliB at h;simp only[aH,bX,zD,beq_iff_eq]at h;obtain⟨⟨⟨h1,h2⟩,h3⟩,h4⟩:=h;refine⟨h1,?_,h3,h4⟩;rcases h2 with h2|h2
 ·rw[h2];exact bS _
 ·omega
theorem txC_ok{c:Cl}(h:cliB c=true):(txC c).length<=1024/\(∀t∈txC c,t.length<=1024)/\(lisE c.2.2.1).length<=2000/\(lisE c.2.2.2.1).length<=2000:=by
 obtain⟨_,h2,h3,h4⟩:=ypD h;obtain⟨a1,_,a3⟩:=ycU h3;obtain⟨b1,_,b3⟩:=ycU h4;have l1:=ydO (l:=c.2.2.1) (by omega) fun t ht=>tx_len (a1 t ht);have l2:=ydO (l:=c.2.2.2.1) (by omega) fun t ht=>sc_len (b1 t ht);have e1:(lisE c.2.2.1).length=c.2.2.1.length+1:=rfl;have e2:(lisE c.2.2.2.1).length=c.2.2.2.1.length+1:=rfl;refine⟨?_,fun t ht=>?_,by omega,by omega⟩
 ·unfold txC;simp only[aD,aS,bZ,e1,e2];omega
 ·unfold txC at ht;rcases bI.1 ht with ht|ht
  ·rcases aL.1 ht with rfl|ht
   ·omega
   ·rw[aZ.1 ht];simp only[aD,ypR];omega
  ·rcases bI.1 ht with ht|ht
   ·exact l1.2 t ht
   ·exact l2.2 t ht
def GrOk(g:GrT):Prop:=g.1.length<=24/\(g.2.1.length<=64/\∀t∈g.2.1,t.length<=24)/\(g.2.2.1.length<=64/\∀t∈g.2.2.1,t.length<=24)/\(g.2.2.2.1.length<=64/\∀t∈g.2.2.2.1,t.length<=24)/\1<=g.2.2.2.2/\g.2.2.2.2<=1099511627776
theorem PInv.hasK_nm{B:Int}{s:PS}(h:PInv B s){i:Nat}(hi:i<3){x:L8}(hx:hasK i s x=true):nmB x=true:=by
 match i,hi with
 |0,_=>obtain⟨v,hv⟩:=kS.has_iff.1 (show mhas keqS s.1 x=true from hx);exact(h.us x v hv).2.1
 |1,_=>obtain⟨v,hv⟩:=kS.has_iff.1 (show mhas keqS s.2.1 x=true from hx);exact(h.gn x v hv).1
 |2,_=>obtain⟨v,hv⟩:=kS.has_iff.1 (show mhas keqS s.2.2.1 x=true from hx);have h1:=h.ro x v hv;have h2:=zaR h1.2;rw[h1.1]at h2;exact h2
theorem gr_ok{B:Int}(hB:B<=1099511627776){s:PS}(h:PInv B s):∀g∈grE s,GrOk g:=fun g hg=>by obtain⟨p,hp,rfl⟩:=bF.1 hg;have h1:=h.gn p.1 p.2 hp;have h2:=fun i hi=>(h.gl p.1 p.2 hp i hi).2;refine⟨zkD h1.1,⟨h.lst_len hp (i:=0) (by decide),fun t ht=>zkD (h.hasK_nm (i:=0) (by decide) (h2 0 (by decide) t ht))⟩,⟨h.lst_len hp (i:=1) (by decide),fun t ht=>zkD (h.hasK_nm (i:=1) (by decide) (h2 1 (by decide) t ht))⟩,⟨h.lst_len hp (i:=2) (by decide),fun t ht=>zkD (h.hasK_nm (i:=2) (by decide) (h2 2 (by decide) t ht))⟩,h1.2.1,?_⟩;have:=h1.2.2;show p.2.2<=_;omega
theorem txG_ok{g:GrT}(h:GrOk g):(txG g).length<=1024/\(∀t∈txG g,t.length<=1024):=by
 obtain⟨_,⟨a1,a2⟩,⟨b1,b2⟩,⟨c1,c2⟩,d1,d2⟩:=h;have l1:=ydO (l:=g.2.1) (by omega) fun t ht=>aY (a2 t ht) (by decide);have l2:=ydO (l:=g.2.2.1) (by omega) fun t ht=>aY (b2 t ht) (by decide);have l3:=ydO (l:=g.2.2.2.1) (by omega) fun t ht=>aY (c2 t ht) (by decide);have e1:(lisE g.2.1).length=g.2.1.length+1:=rfl;have e2:(lisE g.2.2.1).length=g.2.2.1.length+1:=rfl;have e3:(lisE g.2.2.2.1).length=g.2.2.2.1.length+1:=rfl;refine⟨?_,fun t ht=>?_⟩
 ·unfold txG;simp only[aD,aS,bZ,e1,e2,e3];omega
 ·unfold txG at ht;rcases bI.1 ht with ht|ht
  ·rw[aZ.1 ht];exact yhG (by omega)
  ·rcases bI.1 ht with ht|ht
   ·exact l1.2 t ht
   ·rcases bI.1 ht with ht|ht
    ·exact l2.2 t ht
    ·exact l3.2 t ht
theorem ysC{k:L8}{ts:List L8}{acc:List (L8×L8)}(h:ts.length<=1024/\∀t∈ts,t.length<=1024)(ha:acc.length<=1048576):zbV zaB k ts acc=some (acc++[(k,zkN ts)]):=by unfold zbV;rw[yeC h.2 h.1,zaA,zjP (by simp;omega),zaA]
theorem ymP{γ:Type}{es:List γ}{s:PS}{f:γ->L8×L8}{body:Int×UM×GM×RM×CM×MM×List γ×List (L8×L8)->Option ((Int×UM×GM×RM×CM×MM×List γ×List (L8×L8))⊕(UM×GM×RM×CM×MM×List (L8×L8)))}(hl:es.length<=1024) (hb:∀(i:Nat) (hi:i<es.length) (acc:List (L8×L8)),acc.length<=8192->body ((i:Int),s.1,s.2.1,s.2.2.1,s.2.2.2.1,s.2.2.2.2,es,acc)=some (.inl (((i+1:Nat):Int),s.1,s.2.1,s.2.2.1,s.2.2.2.1,s.2.2.2.2,es,acc++[f es[i]]))) (he:∀acc,body ((es.length:Int),s.1,s.2.1,s.2.2.1,s.2.2.2.1,s.2.2.2.2,es,acc)=some (.inr (s.1,s.2.1,s.2.2.1,s.2.2.2.1,s.2.2.2.2,acc))) (acc:List (L8×L8)) (ha:acc.length<=4096):iter body ((0:Int),s.1,s.2.1,s.2.2.1,s.2.2.2.1,s.2.2.2.2,es,acc)=some (s.1,s.2.1,s.2.2.1,s.2.2.2.1,s.2.2.2.2,acc++es.map f):=by
 have key:∀(k i:Nat) (acc:List (L8×L8)),k+i=es.length->acc.length+k<=8192->∀g,k<g->zrW body g ((i:Int),s.1,s.2.1,s.2.2.1,s.2.2.2.1,s.2.2.2.2,es,acc)=some (s.1,s.2.1,s.2.2.1,s.2.2.2.1,s.2.2.2.2,acc++(es.drop i).map f):=by
  intro k;induction k with
  |zero=>
   intro i acc hi _ g hg;obtain⟨g,rfl⟩:∃m,g=m+1:=⟨g-1,by omega⟩;have hi:i=es.length:=by omega
   subst hi;rw[zeS (he acc),dU,dN,bQ]
  |succ k ih=>
   intro i acc hi ha g hg;obtain⟨g,rfl⟩:∃m,g=m+1:=⟨g-1,by omega⟩;have hlt:i<es.length:=by omega
   rw[zdP (hb i hlt acc (by omega)),ih (i+1) _ (by omega) (by simp;omega) g (by omega),cG hlt,bG,aV];rfl
 have:=key es.length 0 acc (by omega) (by omega) FU (by unfold FU;omega);rw[cO]at this;exact this
theorem app_c(a:L8){n:L8}(ha:a.length<=64)(h:n.length<=24):app a n=some (a++n):=zjP (by omega)
theorem roE_mem{B:Int}{s:PS}(h:PInv B s):∀r∈roE s,yjE r=true:=fun r hr=>by obtain⟨p,hp,rfl⟩:=bF.1 hr;exact(h.ro p.1 p.2 hp).2
theorem clE_mem{B:Int}{s:PS}(h:PInv B s):∀c∈clE s,cliB c=true:=fun c hc=>by obtain⟨p,hp,rfl⟩:=bF.1 hc;exact(h.cl p.1 p.2 hp).2
theorem usE_mem{B:Int}{s:PS}(h:PInv B s):∀u∈usE s,nmB u.1=true/\txB u.2.1=true/\1<=u.2.2.2/\u.2.2.2<=B:=fun u hu=>by obtain⟨p,hp,rfl⟩:=bF.1 hu;have:=h.us p.1 p.2 hp;have e:p.2.1=p.1:=this.1;exact⟨by rw[e];exact this.2.1,this.2.2⟩
theorem pr_len{p:L8}(h:prB p=true):p.length<=26:=by obtain⟨c,l,rfl,_,hl⟩:=yhT h;have:=zkD hl;simp only[aS];omega
theorem yrU{B:Int}{s:PS}(h:PInv B s):∀m∈maE s,prB m.1=true/\prB m.2=true:=fun m hm=>by obtain⟨p,hp,rfl⟩:=bF.1 hm;have:=h.ma p hp;exact⟨this.1,this.2.1⟩
theorem ypA:∀{l:List L8},l.Nodup->nodupB l=true
 |[],_=>rfl|x::l,h=>by have hc:=List.nodup_cons.1 h;unfold nodupB;rw[ypA hc.2,Bool.and_true,Bool.not_eq_true',List.any_eq_false];intro y hy;simp only[beq_iff_eq];exact fun e=>hc.1 (by rw[<-e];exact hy)
theorem no_bar{p:L8}(h:prB p=true):(124:UInt8)∉p:=by
 obtain⟨c,l,rfl,hc,hl⟩:=yhT h;rw[nm_is,aH,aH,bK]at hl;intro hm;rcases aL.1 hm with e|hm
 ·rcases hc with rfl|rfl<;>cases e
 ·rcases aL.1 hm with e|hm
  ·cases e
  ·have:=hl.2 _ hm;rw[let_bar]at this;cases this
theorem yyZ:∀{a c:L8} {b d:L8},(124:UInt8)∉a->(124:UInt8)∉c->a++124::b=c++124::d->a=c/\b=d
 |[],[],b,d,_,_,e=>⟨rfl,by simpa using e⟩|[],x::c,b,d,_,hc,e=>by
  have:(124:UInt8)=x:=by injection e
  exact absurd (by rw[this];exact aO) hc
 |x::a,[],b,d,ha,_,e=>by
  have:x=(124:UInt8):=by injection e
  exact absurd (by rw[this];exact aO) ha
 |x::a,y::c,b,d,ha,hc,e=>by
  have e1:x=y:=by injection e
  have e2:a++124::b=c++124::d:=by injection e
  obtain⟨h1,h2⟩:=yyZ (fun h=>ha (aN _ h)) (fun h=>hc (aN _ h)) e2;exact⟨by rw[e1,h1],h2⟩
theorem rows_nodup{B:Int}{s:PS}(h:PInv B s):((yjH s).map (·.1)).Nodup:=by
 have nd:∀{γ δ:Type} {es:List (L8×γ)} {pre:L8} {f:δ->L8×L8} {g:L8×γ->δ},Ri kltS es->(∀p∈es,(f (g p)).1=pre++p.1)->(((es.map g).map f).map (·.1)).Nodup:=fun {γ δ es pre f g} hR hf=>by
  have e:((es.map g).map f).map (·.1)=(es.map (·.1)).map (pre ++ ·):=by rw[eA,eA,eA];exact List.map_congr_left fun p hp=>hf p hp
  rw[e];refine List.Pairwise.map _ (fun a b hab e=>hab (gZ e)) (RiL.nodup (cT.2 hR))
 have n1:(((clE s).map rowC).map (·.1)).Nodup:=nd (g:=fun p:L8×Cl=>p.2) (pre:=[99,108,105,101,110,116,47]) h.cR fun p hp=>by show _++p.2.1=_;rw[(h.cl p.1 p.2 hp).1]
 have n2:(((grE s).map rowG).map (·.1)).Nodup:=nd (g:=fun p:L8×Gr=>(p.1,p.2.1.1,p.2.1.2.1,p.2.1.2.2,p.2.2)) (pre:=[103,114,111,117,112,47]) h.gR fun p hp=>rfl;have n4:(((roE s).map rowR).map (·.1)).Nodup:=nd (g:=fun p:L8×Ro=>p.2) (pre:=[114,111,108,101,47]) h.rR fun p hp=>by show _++p.2.1=_;rw[(h.ro p.1 p.2 hp).1]
 have n5:(((usE s).map rowU).map (·.1)).Nodup:=nd (g:=fun p:L8×Us=>p.2) (pre:=[117,115,101,114,47]) h.uR fun p hp=>by show _++p.2.1=_;rw[(h.us p.1 p.2 hp).1]
 have n3:(((maE s).map rowM).map (·.1)).Nodup:=by rw[eA];have hn:(maE s).Nodup:=(cT.2 (h.mR.imp fun {p q} hpq=>kSS.lt_ne hpq):(s.2.2.2.2.map (·.1)).Pairwise (· ≠ ·));refine cT.2 (List.Pairwise.imp_of_mem (fun {a b} ha hb hab e=>?_) hn);have e:[109,97,121,47]++a.1++[124]++a.2=[109,97,121,47]++b.1++[124]++b.2:=e;rw[aV,aV,aV,aV]at e;obtain⟨h1,h2⟩:=yyZ (no_bar (yrU h a ha).1) (no_bar (yrU h b hb).1) (gZ e);exact hab (Prod.ext h1 h2)
 have hd:∀{γ:Type} {l:List γ} {f:γ->L8×L8} {c:UInt8},(∀x,(f x).1.head? = some c)->∀k∈(l.map f).map (·.1),k.head? = some c:=fun {γ l f c} hf k hk=>by rw[eA]at hk;obtain⟨x,_,rfl⟩:=bF.1 hk;exact hf x
 have d1:=hd (l:=clE s) (f:=rowC) (c:=99) fun _=>rfl;have d2:=hd (l:=grE s) (f:=rowG) (c:=103) fun _=>rfl;have d3:=hd (l:=maE s) (f:=rowM) (c:=109) fun _=>rfl;have d4:=hd (l:=roE s) (f:=rowR) (c:=114) fun _=>rfl;have d5:=hd (l:=usE s) (f:=rowU) (c:=117) fun _=>rfl;unfold yjH;simp only[cN]at *;refine eI.2 ⟨n1,eI.2 ⟨n2,eI.2 ⟨n3,eI.2 ⟨n4,n5,fun a ha b hb e=>?_⟩,fun a ha b hb e=>?_⟩,fun a ha b hb e=>?_⟩,fun a ha b hb e=>?_⟩
 ·have h1:=d4 a ha;have h2:=d5 b hb;rw[e,h2]at h1;cases h1
 ·have h1:=d3 a ha;rw[e]at h1;rcases bI.1 hb with hb|hb
  ·rw[d4 b hb]at h1;cases h1
  ·rw[d5 b hb]at h1;cases h1
 ·have h1:=d2 a ha;rw[e]at h1;rcases bI.1 hb with hb|hb
  ·rw[d3 b hb]at h1;cases h1
  ·rcases bI.1 hb with hb|hb
   ·rw[d4 b hb]at h1;cases h1
   ·rw[d5 b hb]at h1;cases h1
 ·have h1:=d1 a ha;rw[e]at h1;rcases bI.1 hb with hb|hb
  ·rw[d2 b hb]at h1;cases h1
  ·rcases bI.1 hb with hb|hb
   ·rw[d3 b hb]at h1;cases h1
   ·rcases bI.1 hb with hb|hb
    ·rw[d4 b hb]at h1;cases h1
    ·rw[d5 b hb]at h1;cases h1
theorem rows_ok{B:Int}(hB:B<=1099511627776){s:PS}(h:PInv B s):zbP zaB s.1 s.2.1 s.2.2.1 s.2.2.2.1 s.2.2.2.2=some (xfC s,s):=by
 have lc:(clE s).length<=32:=by unfold clE;rw[aI];exact h.cL
 have lg:(grE s).length<=32:=by unfold grE;rw[aI];exact h.gL
 have lm:(maE s).length<=64:=by unfold maE;rw[aI];exact h.mL
 have lr:(roE s).length<=32:=by unfold roE;rw[aI];exact h.rL
 have lu:(usE s).length<=64:=by unfold usE;rw[aI];exact h.uL
 unfold zbP;rw[yxU h,zaA];simp only
 rw[ymP (s:=s) (es:=clE s) (f:=rowC) (by omega) (fun i hi acc ha=>by
  obtain⟨c,hc⟩:∃c,(clE s)[i]=c:=⟨_,rfl⟩;have hcb:=clE_mem h _ (bT hi);rw[hc]at hcb;obtain⟨t1,t2,t3,t4⟩:=txC_ok hcb;obtain⟨q1,q2,q3,q4⟩:=ypD hcb;have q5:=(ycU q3).2.2;have q6:=(ycU q4).2.2;simp only;unfold ziX;simp only
  rw[zfQ (by omega),zuY hi,zaA,zhZ rfl hi,zaA,hc,app_c _ (by decide) (zkD q1),zaA,ycZ,zaA,ycZ,zaA,zjP (by simp only[ypR];omega),zaA,ycZ,zaA,zjP (by simp only[aD,ypR];omega),zaA,ycZ,zaA,zjP (by simp only[aD,ypR];omega),zaA,zvJ (by omega),zaA,zvJ (by omega),zaA,xfB (fun l hl=>by
   rcases aL.1 hl with rfl|hl
   ·simp
   ·rcases aL.1 hl with rfl|hl
    ·exact t3
    ·rw[aZ.1 hl];exact t4) (by simp),zaA]
  have e:[[c.2.1,dgE c.2.2.2.2.1++dgE c.2.2.2.2.2.1++dgE c.2.2.2.2.2.2.1++dgE c.2.2.2.2.2.2.2],lisE c.2.2.1,lisE c.2.2.2.1].flatten=txC c:=by unfold txC;simp only[eG,fU,bQ]
  rw[e,ysC (k:=[99,108,105,101,110,116,47]++c.1) (ts:=txC c) ⟨t1,t2⟩ (by omega),zaA,zoU (by omega)]
  rfl) (fun acc=>by
  simp only;unfold ziX;simp only
  rw[zgE (by omega)]) [] (by simp),zaA]
 simp only;rw[xaI h,zaA];simp only
 rw[ymP (s:=s) (es:=grE s) (f:=rowG) (by omega) (fun i hi acc ha=>by
  obtain⟨g,hg⟩:∃g,(grE s)[i]=g:=⟨_,rfl⟩;have hgb:=gr_ok hB h _ (bT hi);rw[hg]at hgb;obtain⟨t1,t2⟩:=txG_ok hgb;obtain⟨q1,q2,q3,q4,q5,q6⟩:=hgb;obtain⟨n,hn⟩:∃n:Nat,g.2.2.2.2=(n:Int):=⟨g.2.2.2.2.toNat,by omega⟩;simp only;unfold ziK;simp only
  rw[zfQ (by omega),zuY hi,zaA,zhZ rfl hi,zaA,hg,app_c _ (by decide) q1,zaA,hn,ysY n (by omega),zaA,zvJ (by omega),zaA,zvJ (by omega),zaA,zvJ (by omega),zaA,xfB (fun l hl=>by
   have e1:(lisE g.2.1).length=g.2.1.length+1:=rfl;have e2:(lisE g.2.2.1).length=g.2.2.1.length+1:=rfl;have e3:(lisE g.2.2.2.1).length=g.2.2.2.1.length+1:=rfl;rcases aL.1 hl with rfl|hl
   ·simp
   ·rcases aL.1 hl with rfl|hl
    ·omega
    ·rcases aL.1 hl with rfl|hl
     ·omega
     ·rw[aZ.1 hl];omega) (by simp),zaA]
  have e:[[Lib.decDigits n],lisE g.2.1,lisE g.2.2.1,lisE g.2.2.2.1].flatten=txG g:=by unfold txG;rw[hn,cK];simp only[eG,fU,bQ]
  rw[e,ysC (k:=[103,114,111,117,112,47]++g.1) (ts:=txG g) ⟨t1,t2⟩ (by omega),zaA,zoU (by omega)]
  rfl) (fun acc=>by
  simp only;unfold ziK;simp only
  rw[zgE (by omega)]) _ (by simp only[bR,aI];omega),zaA]
 simp only;rw[mays_ok h,zaA];simp only
 have hm:∀(k i:Nat) (acc:List (L8×L8)),k+i=(maE s).length->acc.length+k<=8192->∀g,k<g->zrW (fun x:Int×UM×GM×RM×CM×MM×List (L8×L8)=>zfN zaB (maE s,s) x.1 x.2.1 x.2.2.1 x.2.2.2.1 x.2.2.2.2.1 x.2.2.2.2.2.1 x.2.2.2.2.2.2) g ((i:Int),s.1,s.2.1,s.2.2.1,s.2.2.2.1,s.2.2.2.2,acc)=some (s.1,s.2.1,s.2.2.1,s.2.2.2.1,s.2.2.2.2,acc++((maE s).drop i).map rowM):=by
  intro k;induction k with
  |zero=>
   intro i acc hi _ g hg;obtain⟨g,rfl⟩:∃m,g=m+1:=⟨g-1,by omega⟩;have hi:i=(maE s).length:=by omega
   subst hi;rw[dU,dN,bQ];refine zeS ?_;simp only;unfold zfN;rw[zgE (by simp only;omega)]
  |succ k ih=>
   intro i acc hi ha g hg;obtain⟨g,rfl⟩:∃m,g=m+1:=⟨g-1,by omega⟩;have hlt:i<(maE s).length:=by omega
   rw[cG hlt,bG,show acc++(rowM (maE s)[i]::((maE s).drop (i+1)).map rowM)=(acc++[rowM (maE s)[i]])++((maE s).drop (i+1)).map rowM by rw[aV];rfl,<-ih (i+1) (acc++[rowM (maE s)[i]]) (by omega) (by simp;omega) g (by omega)];refine zdP ?_;have hmm:=yrU h _ (bT hlt);have p1:=pr_len hmm.1;have p2:=pr_len hmm.2;simp only;unfold zfN;simp only;rw[zfQ (by omega),zhZ rfl hlt,zaA,zjP (by simp;omega),zaA,zjP (by simp;omega),zaA,zjP (by simp;omega),zaA];unfold zhC;rw[yeC (fun _ h=>by cases h) (by simp),zaA,zjP (by simp;omega),zaA,zaA,zoU (by omega)];rfl
 rw[show iter _ ((0:Int),s.1,s.2.1,s.2.2.1,s.2.2.2.1,s.2.2.2.2,_)=_ from hm (maE s).length 0 _ (by omega) (by simp only[bR,aD,aI];omega) FU (by unfold FU;omega),zaA,cO];simp only;rw[roles_ok h,zaA];simp only
 rw[ymP (s:=s) (es:=roE s) (f:=rowR) (by omega) (fun i hi acc ha=>by
  obtain⟨r,hr⟩:∃r,(roE s)[i]=r:=⟨_,rfl⟩;have hrb:=roE_mem h _ (bT hi);rw[hr]at hrb;have q1:=ycU (zaV hrb);have l1:=ydO (l:=r.2) (by omega) fun t ht=>sc_len (q1.1 t ht);simp only;unfold ziS;simp only;rw[zfQ (by omega),zuY hi,zaA,zhZ rfl hi,zaA,hr,app_c _ (by decide) (zkD (zaR hrb)),zaA,zvJ (by omega),zaA,ysC (k:=[114,111,108,101,47]++r.1) (ts:=lisE r.2) ⟨by omega,l1.2⟩ (by omega),zaA,zoU (by omega)]
  rfl) (fun acc=>by
  simp only;unfold ziS;simp only
  rw[zgE (by omega)]) _ (by simp only[bR,aD,aI];omega),zaA]
 simp only;rw[users_ok h,zaA];simp only
 rw[ymP (s:=s) (es:=usE s) (f:=rowU) (by omega) (fun i hi acc ha=>by
  obtain⟨u,hu⟩:∃u,(usE s)[i]=u:=⟨_,rfl⟩;obtain⟨q1,q2,q3,q4⟩:=usE_mem h _ (bT hi);rw[hu]at q1 q2 q3 q4;obtain⟨n,hn⟩:∃n:Nat,u.2.2.2=(n:Int):=⟨u.2.2.2.toNat,by omega⟩;simp only;unfold ziU;simp only;rw[zfQ (by omega),zuY hi,zaA,zhZ rfl hi,zaA,hu,app_c _ (by decide) (zkD q1),zaA,ycZ,zaA,hn,ysY n (by omega),zaA];unfold zhB
  have ht:∀t∈[u.2.1,dgE u.2.2.1,Lib.decDigits n],t.length<=1024:=fun t ht=>by
   rcases aL.1 ht with rfl|ht
   ·exact tx_len q2
   ·rcases aL.1 ht with rfl|ht
    ·rw[ypR];decide
    ·rw[aZ.1 ht];exact yhG (by omega)
  rw[yeC ht (by simp),zaA,zjP (by simp;omega),zaA,zaA,zoU (by omega)];have e:rowU u=([117,115,101,114,47]++u.1,zkN [u.2.1,dgE u.2.2.1,Lib.decDigits n]):=by unfold rowU txU;rw[hn,cK]
  rw[e]) (fun acc=>by
  simp only;unfold ziU;simp only
  rw[zgE (by omega)]) _ (by simp only[bR,aD,aI];omega),zaA]
 simp only;have e0:((([]++(clE s).map rowC)++(grE s).map rowG)++(maE s).map rowM++(roE s).map rowR)++(usE s).map rowU=yjH s:=by unfold yjH;simp only[bR,aV]
 rw[e0];have e1:yeX (yjH s)=some (xfC s):=by
  unfold yeX xfC;have hl:(yjH s).length<1152921504606846976:=by unfold yjH;simp only[aD,aI];omega
  rw[ypA (rows_nodup h),zA hl];rfl
 rw[e1,zaA]
def τWkG:TE:=[(3,⟨.int .i64,1,[.v (.i .i64) (show Int from 0)],(.i .i64),8⟩),
 (9,⟨.s,1,[.v .s (show Bs from [])],.s,16⟩),
 (22,⟨.sl 9,1,[.nils],(.sl .s),24⟩),
 (31,⟨.sl 33,1,[.nils],(.sl (.pr .s .s)),24⟩),
 (33,⟨.st [(9,0),(9,1)],2,[.v .s (show Bs from []),.v .s (show Bs from [])],(.pr .s .s),32⟩),
 (34,⟨.pt 128,1,[.nilp],.un,8⟩),
 (45,⟨.sl 53,1,[.nils],(.sl (.pr (.i .i64) (.pr (.i .i64) (.pr .s (.pr .s (.pr .b (.pr (.pr .s (.sl .s)) (.pr .s (.pr .s (.pr (.sl .s) (.pr (.sl .s) (.pr .b (.pr .b (.pr .b .b)))))))))))))),24⟩),
 (53,⟨.st [(3,0),(3,1),(9,2),(9,3),(4,4),(49,5),(51,7)],15,[.v (.i .i64) (show Int from 0),.v (.i .i64) (show Int from 0),.v .s (show Bs from []),.v .s (show Bs from []),.v .b (show Bool from false),.v .s (show Bs from []),.nils,.v .s (show Bs from []),.v .s (show Bs from []),.nils,.nils,.v .b (show Bool from false),.v .b (show Bool from false),.v .b (show Bool from false),.v .b (show Bool from false)],(.pr (.i .i64) (.pr (.i .i64) (.pr .s (.pr .s (.pr .b (.pr (.pr .s (.sl .s)) (.pr .s (.pr .s (.pr (.sl .s) (.pr (.sl .s) (.pr .b (.pr .b (.pr .b .b))))))))))))),184⟩)]
theorem τ_okWkG:TEok aB τWkG:=yrP (by kernel_rfl) (by kernel_rfl)
theorem mixWkG:Tryz.prog.follows .mixedOrders=true:=by kernel_rfl
theorem fscWkG {G : List (Nat × Obj)} {o : Ops} [zoW G] [zmE G o] {Γ : CT} {η : HT} {f : FuncId} {fn : Func} {c : SC} (hΓ : ∀ B, GB G B -> CTok aB Γ B) (hf : Tryz.prog.funcs[f]? = some fn) (i : (fn.name == "runtime.NumGoroutine") = false := by kernel_rfl) (j : fn.body.isNone = false := by kernel_rfl) (l : bW c.I.sl.length fn.ntmps = true := by kernel_rfl) (r : aG fn.results.toList.length c.nr = true := by kernel_rfl) (e : fnS τWkG Γ η fn c.I c.outs = c.p := by kernel_rfl) : SCok aB G f c := witO (G := G) (o := o) <| xbM mixWkG τ_okWkG hΓ hf (isFn hf i j) l r e
theorem fpcWkG {G : List (Nat × Obj)} {o : Ops} [zoW G] [zmE G o] {Γ : CT} {η : HT} {f : FuncId} {fn : Func} {c : PC} (hΓ : ∀ B, GB G B -> CTok aB Γ B) (hf : Tryz.prog.funcs[f]? = some fn) (i : (fn.name == "runtime.NumGoroutine") = false := by kernel_rfl) (j : fn.body.isNone = false := by kernel_rfl) (l : bW c.ash.length fn.ntmps = true := by kernel_rfl) (r : c.cl = false := by kernel_rfl) (e : fnP τWkG Γ η fn c.ash c.rts = c.p := by kernel_rfl) : PCok aB G f c := witO (G := G) (o := o) <| xdN mixWkG τ_okWkG hΓ hf (isFn hf i j) l r e
section
variable {tabs:List (Nat×Obj)}[zoW tabs]{o:Ops}[zmE tabs o]
def zbW(_o:Ops)(v0:List (Bs×Bs))(v1:List (Bs×Bs))(v2:Int):Option (Int⊕(Bool⊕Unit)):=
 bif decide (v2<(v0.length:Int))then((idx v0 v2).bind fun v3=>(idx v1 v2).bind fun v4=>bif(!((v3.1==v4.1)&&(v3.2==v4.2)))then some (.inr (.inl false))else some (.inl (w64 (v2+1))))else some (.inr (.inr ()))
def zcZ(o:Ops)(v0:List (Bs×Bs))(v1:List (Bs×Bs)):Option (Bool):=
 bif((v0.length:Int) != (v1.length:Int))then(some false)else((iter (zbW o v0 v1) (0:Int)).bind fun v5=>match v5 with
 |.inl v6=>(some v6)|.inr _v7=>(some true))
def zjT(o:Ops):PC:=⟨[(.h (.sl (.pr .s .s))),(.h (.sl (.pr .s .s)))],[.b],fun x=>zcZ o x.1 x.2,false⟩
theorem zsZ:PCok aB tabs 27 (zjT o):=fpcWkG (o:=o) (η:=[(200004,.loop [] ⟨[(5,hI)],[]⟩ [0,1] [(some 1000000,⟨[(4,hB)],[]⟩),(some 0,⟨[],[]⟩)]),
 (4000006,.sch (zpu 0 9))]) (Γ:=⟨[],[],false,[]⟩) (ctok trivial trivial) Tryz.func27
end
theorem yzH(l:List (L8×L8))(hl:l.length<=1048576):zcZ zaB l l=some true:=by
 have key:∀(f i:Nat),f+i=l.length->∀g,f<g->zrW (zbW zaB l l) g (i:Int)=some (.inr ()):=by
  intro f;induction f with
  |zero=>
   intro i hi g hg;obtain⟨g,rfl⟩:∃m,g=m+1:=⟨g-1,by omega⟩;have hi:i=l.length:=by omega
   subst hi;refine zeS ?_;unfold zbW;rw[zgE (by omega)]
  |succ f ih=>
   intro i hi g hg;obtain⟨g,rfl⟩:∃m,g=m+1:=⟨g-1,by omega⟩;have hlt:i<l.length:=by omega
   refine(zdP ?_).trans (ih (i+1) (by omega) g (by omega));unfold zbW;rw[zfQ (by omega),zhZ rfl hlt,zaA,zaA,beq_self_eq_true,beq_self_eq_true,zoU (by omega)];rfl
 unfold zcZ;rw[bne_self_eq_false,zF,show iter (zbW zaB l l) (0:Int)=_ from key l.length 0 (by omega) FU (by unfold FU;omega),zaA]
theorem yyP{B:Int}{s:PS}(h:PInv B s):(xfC s).length<=1048576:=by have e:(xfC s).length=(yjH s).length:=(zgN _ _).length_eq;rw[e];unfold yjH clE grE maE roE usE;simp only[aD,aI];have:=h.uL;have:=h.gL;have:=h.rL;have:=h.cL;have:=h.mL;omega
section
variable {P:Program}{G:List (Nat×Obj)}
theorem xaB{f:FuncId}{e:Ty}{T:TypeId}{p:List (den e)->Option (List (den e))}(hz:tsz e=1)(hT:T≠yxK)(h:SCok P G f ⟨⟨[(0,.h (.sl e))],[]⟩,1,[(none,⟨[(0,.own 0)],[.osl e T]⟩)],p⟩):
  SCok P G f ⟨⟨[(0,.h (.sl e))],[]⟩,1,[(none,⟨[(0,.h (.jk T))],[]⟩)],fun(xs:List (den e))=>aP (p xs) fun r=>some r.length⟩:=by
 obtain⟨q,hq⟩:=zcW e;have e0:∀y:den (.sl e),zcF [.osl e T] [.v (.sl e) y]=[.osl 0 e T y]:=fun y=>by rw[zcF,hq];rfl
 refine⟨h.fn,fun S0 w0 us E0 L0 (xs:List (den e)) (d:Nat) hG hul R hy=>?_⟩;have hy:(aP (p xs) fun r=>some r.length)=some d:=hy;obtain⟨ys,hys,hd⟩:=bnd hy;cases hd;refine(h.ok S0 w0 us E0 L0 xs ys hG hul R hys).mono ?_;rintro e' w' ⟨v1,hv1,S',E',L',σo,V',hout,hS,_,R2,_,_,hres⟩;have hσ:σo=⟨[(0,.own 0 0)],[.osl 0 e T ys]⟩:=by have h1:=hout (γ:=St) fun _ σ=>some σ;have h2:(Shp.put (⟨[(0,.own 0)],[.osl e T]⟩:Shp) ys)=⟨[(0,.own 0 0)],[.osl 0 e T ys]⟩:=congrArg (fun hp=>(⟨[(0,.own 0 0)],hp⟩:St)) (e0 ys);have h3:(some ((Shp.put (⟨[(0,.own 0)],[.osl e T]⟩:Shp) ys).app []):Option St)=some σo:=h1;rw[h2]at h3;exact(osi h3).symm
 subst hσ;obtain⟨r2,ee2,k1,k2,vv,vv',cs2,rs2,rfl,rfl,hrl2,hsm2⟩:=R2.obj 0 _ rfl;obtain⟨k3,e2,k4,k5⟩:=(show VB S' E' (.own 0 0) (V' 0)from R2.sl 0);rw[k2]at k4;cases k4;have hV:V' 0=vv':=(k5 _ _ _ rfl).2 rfl;rw[hz]at k1;have hk2:lkR L' 0=some (.osl vv ys.length 1 cs2 rs2 T):=by rw[zaW];exact k1
 obtain⟨S2,hle,H,hj⟩:=HS.junk R2.hs hk2 hT;have hL:(rmR L' 0).length=0:=by
  have h1:L'.length=1:=R2.lL
  match L',h1 with
  |[_],_=>rfl
 refine⟨v1,hv1,S2,[],rmR L' 0,⟨[(0,.v (.jk T) ys.length)],[]⟩,V',fun k=>rfl,Mem.le_trans hS hle,fun k e hk=>absurd hk (Nat.not_lt_zero k),⟨H,hL,rfl,fun i o ho=>(by cases ho),fun t=>?_⟩,fun i ver e' T' xs' hi=>(by cases hi),bS _,hres⟩;cases t with
 |zero=>
  refine VR.ofC (show VC S2 [] (.v (.jk T) ys.length) (V' 0)from⟨V' 0,rfl,?_⟩);rw[hV];rcases hsm2 with h1|⟨h1,h2,_,a,h3⟩
  ·rw[h1];exact hj
  ·exact .inl ⟨a,h3,h2⟩
 |succ t=>trivial
end
def τWkJ:TE:=[(3,⟨.int .i64,1,[.v (.i .i64) (show Int from 0)],(.i .i64),8⟩),
 (9,⟨.s,1,[.v .s (show Bs from [])],.s,16⟩),
 (22,⟨.sl 9,1,[.nils],(.sl .s),24⟩),
 (51,⟨.st [(9,0),(9,1),(22,2),(22,3),(4,4),(4,5),(4,6),(4,7)],8,[.v .s (show Bs from []),.v .s (show Bs from []),.nils,.nils,.v .b (show Bool from false),.v .b (show Bool from false),.v .b (show Bool from false),.v .b (show Bool from false)],(.pr .s (.pr .s (.pr (.jk 9) (.pr (.jk 9) (.pr .b (.pr .b (.pr .b .b))))))),88⟩),
 (54,⟨.sl 57,1,[.nils],(.sl (.pr .s (.pr (.jk 9) (.pr (.jk 9) (.pr (.jk 9) (.i .i64)))))),24⟩),
 (57,⟨.st [(9,0),(22,1),(22,2),(22,3),(3,4)],5,[.v .s (show Bs from []),.nils,.nils,.nils,.v (.i .i64) (show Int from 0)],(.pr .s (.pr (.jk 9) (.pr (.jk 9) (.pr (.jk 9) (.i .i64))))),96⟩),
 (64,⟨.sl 51,1,[.nils],(.sl (.pr .s (.pr .s (.pr (.jk 9) (.pr (.jk 9) (.pr .b (.pr .b (.pr .b .b)))))))),24⟩),
 (123,⟨.map 9 133,1,[.nilm],(.mp .s (.pr (.pr (.sl .s) (.pr (.sl .s) (.sl .s))) (.i .i64))),8⟩),
 (125,⟨.map 9 51,1,[.nilm],(.mp .s (.pr .s (.pr .s (.pr (.jk 9) (.pr (.jk 9) (.pr .b (.pr .b (.pr .b .b)))))))),8⟩),
 (128,⟨.st [(122,0),(123,1),(124,2),(125,3),(126,4)],5,[.nilm,.nilm,.nilm,.nilm,.nilm],(.pr (.mp .s (.pr .s (.pr .s (.pr .b (.i .i64))))) (.pr (.mp .s (.pr (.pr (.sl .s) (.pr (.sl .s) (.sl .s))) (.i .i64))) (.pr (.mp .s (.pr .s (.sl .s))) (.pr (.mp .s (.pr .s (.pr .s (.pr (.jk 9) (.pr (.jk 9) (.pr .b (.pr .b (.pr .b .b)))))))) (.mp (.pr .s .s) .un))))),40⟩),
 (131,⟨.ar 3 22,3,[.nils,.nils,.nils],(.pr (.sl .s) (.pr (.sl .s) (.sl .s))),72⟩),
 (133,⟨.st [(131,0),(3,3)],4,[.nils,.nils,.nils,.v (.i .i64) (show Int from 0)],(.pr (.pr (.sl .s) (.pr (.sl .s) (.sl .s))) (.i .i64)),80⟩)]
theorem τ_okWkJ:TEok aB τWkJ:=yrP (by kernel_rfl) (by kernel_rfl)
theorem mixWkJ:Tryz.prog.follows .mixedOrders=true:=by kernel_rfl
theorem ydF {G : List (Nat × Obj)} {o : Ops} [zoW G] [zmE G o] {Γ : CT} {η : HT} {f : FuncId} {fn : Func} {c : SC} (hΓ : ∀ B, GB G B -> CTok aB Γ B) (hf : Tryz.prog.funcs[f]? = some fn) (i : (fn.name == "runtime.NumGoroutine") = false := by kernel_rfl) (j : fn.body.isNone = false := by kernel_rfl) (l : bW c.I.sl.length fn.ntmps = true := by kernel_rfl) (r : aG fn.results.toList.length c.nr = true := by kernel_rfl) (e : fnS τWkJ Γ η fn c.I c.outs = c.p := by kernel_rfl) : SCok aB G f c := witO (G := G) (o := o) <| xbM mixWkJ τ_okWkJ hΓ hf (isFn hf i j) l r e
theorem fpcWkJ {G : List (Nat × Obj)} {o : Ops} [zoW G] [zmE G o] {Γ : CT} {η : HT} {f : FuncId} {fn : Func} {c : PC} (hΓ : ∀ B, GB G B -> CTok aB Γ B) (hf : Tryz.prog.funcs[f]? = some fn) (i : (fn.name == "runtime.NumGoroutine") = false := by kernel_rfl) (j : fn.body.isNone = false := by kernel_rfl) (l : bW c.ash.length fn.ntmps = true := by kernel_rfl) (r : c.cl = false := by kernel_rfl) (e : fnP τWkJ Γ η fn c.ash c.rts = c.p := by kernel_rfl) : PCok aB G f c := witO (G := G) (o := o) <| xdN mixWkJ τ_okWkJ hΓ hf (isFn hf i j) l r e
abbrev yrS:Type:=Bs×Nat×Nat×Nat×Int
abbrev xcW:Ty:=.pr .s (.pr (.jk 9) (.pr (.jk 9) (.pr (.jk 9) (.i .i64))))
abbrev yoC:Type:=Bs×Bs×Nat×Nat×Bool×Bool×Bool×Bool
abbrev yxQ:Ty:=.pr .s (.pr .s (.pr (.jk 9) (.pr (.jk 9) (.pr .b (.pr .b (.pr .b .b))))))
abbrev KWkJ2:Type:=((List Bs)×(List Bs)×List Bs)×Int
abbrev YWkJ2:Ty:=.pr (.pr (.sl .s) (.pr (.sl .s) (.sl .s))) (.i .i64)
abbrev yjG:Type:=Bs×KWkJ2
abbrev QWkJ0:OSh:=.blk 128 [(.mpr 1),(.mpr 2),(.mpr 3),(.mpr 4),(.mpr 5)]
abbrev ypL:OSh:=.mp true .s YWkJ2
section
variable {tabs:List (Nat×Obj)}[zoW tabs]{o:Ops}[zmE tabs o]
def yhS:SC:=⟨⟨[(0,(.h (.sl .s)))],[]⟩,1,[(none,⟨[(0,(.h (.jk 9)))],[]⟩)],fun(xs:List Bs)=>(app [] xs).bind fun r=>some r.length⟩
theorem ypV:SCok aB tabs 198 yhS:=wit (G:=tabs)<|xaB rfl (by decide) ztI
def zjM(_o:Ops)(v0:Nat):Option (Nat):=
 (chk (decide ((v0:Int)=(v0:Int))&&decide ((v0:Int)=(v0:Int)))).bind fun _=>some v0
def zuJ(o:Ops):SC:=⟨⟨[(0,(.h (.jk 9)))],[]⟩,1,[(none,⟨[(0,(.h (.jk 9)))],[]⟩)],fun x=>zjM o x⟩
theorem ybB:SCok aB tabs 61 (zuJ o):=ydF (o:=o) (η:=[]) (Γ:=⟨[],[],false,[]⟩) (ctok trivial trivial) Tryz.func61
def zfM(o:Ops)(v0:List Bs):Option (Nat):=
 ((fun(xs:List Bs)=>(app ([]:List Bs) xs).bind fun r=>some r.length) v0).bind fun v1=>(zjM o v1).bind fun v2=>some v2
def zuT(o:Ops):SC:=⟨⟨[(0,(.h (.sl .s)))],[]⟩,1,[(none,⟨[(0,(.h (.jk 9)))],[]⟩)],fun x=>zfM o x⟩
theorem yeJ:SCok aB tabs 197 (zuT o):=ydF (o:=o) (η:=[]) (Γ:=⟨[],[(198,yhS),(61,(zuJ o))],false,[]⟩) (ctok trivial ⟨ypV,⟨ybB,trivial⟩⟩) Tryz.func197
def zwJ(o:Ops)(v0:Bs)(v1:KWkJ2):Option (yrS):=
 (zfM o v1.1.1).bind fun v2=>(zfM o v1.1.2.1).bind fun v3=>(zfM o v1.1.2.2).bind fun v4=>some (v0,v2,v3,v4,v1.2)
def ybH(o:Ops):SC:=⟨⟨[(0,hS),(1,(.h YWkJ2))],[]⟩,1,[(none,⟨[(0,(.h xcW))],[]⟩)],fun x=>zwJ o x.1 x.2⟩
theorem yjF:SCok aB tabs 100 (ybH o):=ydF (o:=o) (η:=[(4000002,.sch (zpu 0 5++zpu 6 4++zpu 11 4++[(.pu,16,[]),(.pu,17,[]),(.mn,5,[]),(.mn,10,[]),(.mn,15,[]),(.pu,18,[]),(.mn,19,[1])]))]) (Γ:=⟨[],[(197,(zuT o))],false,[]⟩) (ctok trivial ⟨yeJ,trivial⟩) Tryz.func100
def zoX(o:Ops)(v3:((List Bs)×List yjG))(v4:Int)(v5:List yjG)(v6:List yrS):Option ((Int×(List yjG)×List yrS)⊕(((List yjG)×List yrS))):=
 bif decide (v4<(v3.1.length:Int))then((idx v3.1 v4).bind fun v7=>let v8:KWkJ2:=zdW keqS v5 v7 ((([]:List Bs),([]:List Bs),([]:List Bs)),(0:Int))
 (zwJ o v7 v8).bind fun v9=>(app v6 ([v9]:List yrS)).bind fun v10=>some (.inl (w64 (v4+1),v5,v10)))else some (.inr (v5,v6))
def zqV(o:Ops)(v0:List yjG):Option (((List yjG)×List yrS)):=
 (chk (decide ((0:Int)<=(v0.length:Int))&&decide ((v0.length:Int)<=(LIM:Int)))).bind fun _=>(mkL (0:Int) (([]:Bs),(0:Nat),(0:Nat),(0:Nat),(0:Int))).bind fun v1=>(zpZ o v0).bind fun v2=>(zkZ v2).bind fun v3=>(iter (fun x=>zoX o v3 x.1 x.2.1 x.2.2) ((0:Int),v3.2,v1)).bind fun v11=>some v11
def zvB(o:Ops):SC:=⟨⟨[(0,(.mpr 0)),(1,(.fn 100 [] []))],[ypL]⟩,1,[(none,⟨[(0,(.own 1))],[ypL,.osl xcW 57]⟩)],fun x=>zqV o x⟩
theorem yeI:SCok aB tabs 99 (zvB o):=ydF (o:=o) (η:=[(200003,.loop [] ⟨[(0,(.mpr 0)),(1,(.fn 100 [] [])),(5,(.own 1)),(15,hI)],[ypL,.osl xcW 57]⟩ [4,13,14] [(some 0,⟨[(5,(.own 1))],[ypL,.osl xcW 57]⟩)])]) (Γ:=⟨[],[(196,(zwT o)),(132,ydQ),(100,(ybH o))],false,[]⟩) (ctok trivial ⟨ydK,⟨ykT,⟨yjF,trivial⟩⟩⟩) Tryz.func99
def zeJ(o:Ops)(v0:List (Bs×Bs×Bs×Bool×Int))(v1:List yjG)(v2:List (Bs×Bs×List Bs))(v3:List (Bs×Bs×Bs×(List Bs)×(List Bs)×Bool×Bool×Bool×Bool))(v4:List ((Bs×Bs)×Unit)):Option (((List (Bs×Bs×Bs×Bool×Int))×(List yjG)×(List (Bs×Bs×List Bs))×(List (Bs×Bs×Bs×(List Bs)×(List Bs)×Bool×Bool×Bool×Bool))×(List ((Bs×Bs)×Unit))×List yrS)):=
 (zqV o v1).bind fun v5=>some (v0,v5.1,v2,v3,v4,v5.2)
abbrev qaX:OSh:=.mp true .s (.pr .s (.pr .s (.pr (.sl .s) (.pr (.sl .s) (.pr .b (.pr .b (.pr .b .b)))))))
abbrev qaZ:OSh:=.mp true .s (.pr .s (.pr .s (.pr .b (.i .i64))))
abbrev qaW:OSh:=.mp true .s (.pr .s (.sl .s))
def zlH(o:Ops):SC:=⟨⟨[(0,(.ptr 0 0))],[QWkJ0,qaZ,ypL,qaW,qaX,qaV]⟩,1,[(none,⟨[(0,(.own 6))],[QWkJ0,qaZ,ypL,qaW,qaX,qaV,.osl xcW 57]⟩)],fun x=>zeJ o x.1 x.2.1 x.2.2.1 x.2.2.2.1 x.2.2.2.2⟩
theorem zvM:SCok aB tabs 32 (zlH o):=ydF (o:=o) (η:=[]) (Γ:=⟨[],[(99,(zvB o))],false,[]⟩) (ctok trivial ⟨yeI,trivial⟩) Tryz.func32
def zsF(o:Ops)(v0:Bs)(v1:Bs)(v2:List Bs)(v3:List Bs)(v4:Bool)(v5:Bool)(v6:Bool)(v7:Bool):Option (yoC):=
 ((fun(xs:List Bs)=>(app ([]:List Bs) xs).bind fun r=>some r.length) v2).bind fun v8=>(zjM o v8).bind fun v9=>((fun(xs:List Bs)=>(app ([]:List Bs) xs).bind fun r=>some r.length) v3).bind fun v10=>(zjM o v10).bind fun v11=>some (v0,v1,v9,v11,v4,v5,v6,v7)
def zxP(o:Ops):SC:=⟨⟨[(0,(.ag [hS,hS,(.h (.sl .s)),(.h (.sl .s)),hB,hB,hB,hB]))],[]⟩,1,[(none,⟨[(0,(.h yxQ))],[]⟩)],fun x=>zsF o x.1 x.2.1 x.2.2.1 x.2.2.2.1 x.2.2.2.2.1 x.2.2.2.2.2.1 x.2.2.2.2.2.2.1 x.2.2.2.2.2.2.2⟩
theorem yfN:SCok aB tabs 107 (zxP o):=ydF (o:=o) (η:=[(4000001,.sch [(.pu,0,[]),(.pu,1,[]),(.pu,4,[]),(.pu,5,[]),(.mn,2,[]),(.mn,3,[]),(.pu,8,[]),(.mn,6,[]),(.mn,7,[]),(.mn,9,[0]),(.pu,10,[]),(.mn,11,[0])])]) (Γ:=⟨[],[(198,yhS),(61,(zuJ o))],false,[]⟩) (ctok trivial ⟨ypV,⟨ybB,trivial⟩⟩) Tryz.func107
def zfY(o:Ops)(_v0:Bs)(v1:Bs)(v2:Bs)(v3:List Bs)(v4:List Bs)(v5:Bool)(v6:Bool)(v7:Bool)(v8:Bool):Option (yoC):=
 (zsF o v1 v2 v3 v4 v5 v6 v7 v8).bind fun v9=>some v9
def zjV(o:Ops):SC:=⟨⟨[(0,hS),(1,(.ag [hS,hS,(.h (.sl .s)),(.h (.sl .s)),hB,hB,hB,hB]))],[]⟩,1,[(none,⟨[(0,(.h yxQ))],[]⟩)],fun x=>zfY o x.1 x.2.1 x.2.2.1 x.2.2.2.1 x.2.2.2.2.1 x.2.2.2.2.2.1 x.2.2.2.2.2.2.1 x.2.2.2.2.2.2.2.1 x.2.2.2.2.2.2.2.2⟩
theorem ztE:SCok aB tabs 109 (zjV o):=ydF (o:=o) (η:=[]) (Γ:=⟨[],[(107,(zxP o))],false,[]⟩) (ctok trivial ⟨yfN,trivial⟩) Tryz.func109
def zoZ(o:Ops)(v3:((List Bs)×List (Bs×Bs×Bs×(List Bs)×(List Bs)×Bool×Bool×Bool×Bool)))(v4:Int)(v5:List (Bs×Bs×Bs×(List Bs)×(List Bs)×Bool×Bool×Bool×Bool))(v6:List yoC):Option ((Int×(List (Bs×Bs×Bs×(List Bs)×(List Bs)×Bool×Bool×Bool×Bool))×List yoC)⊕(((List (Bs×Bs×Bs×(List Bs)×(List Bs)×Bool×Bool×Bool×Bool))×List yoC))):=
 bif decide (v4<(v3.1.length:Int))then((idx v3.1 v4).bind fun v7=>let v8:Bs×Bs×(List Bs)×(List Bs)×Bool×Bool×Bool×Bool:=zdW keqS v5 v7 (([]:Bs),([]:Bs),([]:List Bs),([]:List Bs),false,false,false,false)
 (zfY o v7 v8.1 v8.2.1 v8.2.2.1 v8.2.2.2.1 v8.2.2.2.2.1 v8.2.2.2.2.2.1 v8.2.2.2.2.2.2.1 v8.2.2.2.2.2.2.2).bind fun v9=>(app v6 ([v9]:List yoC)).bind fun v10=>some (.inl (w64 (v4+1),v5,v10)))else some (.inr (v5,v6))
def zrC(o:Ops)(v0:List (Bs×Bs×Bs×(List Bs)×(List Bs)×Bool×Bool×Bool×Bool)):Option (((List (Bs×Bs×Bs×(List Bs)×(List Bs)×Bool×Bool×Bool×Bool))×List yoC)):=
 (chk (decide ((0:Int)<=(v0.length:Int))&&decide ((v0.length:Int)<=(LIM:Int)))).bind fun _=>(mkL (0:Int) (([]:Bs),([]:Bs),(0:Nat),(0:Nat),false,false,false,false)).bind fun v1=>(zqF o v0).bind fun v2=>(zkZ v2).bind fun v3=>(iter (fun x=>zoZ o v3 x.1 x.2.1 x.2.2) ((0:Int),v3.2,v1)).bind fun v11=>some v11
def zvT(o:Ops):SC:=⟨⟨[(0,(.mpr 0)),(1,(.fn 109 [] []))],[qaX]⟩,1,[(none,⟨[(0,(.own 1))],[qaX,.osl yxQ 51]⟩)],fun x=>zrC o x⟩
theorem yeR:SCok aB tabs 108 (zvT o):=ydF (o:=o) (η:=[(200003,.loop [] ⟨[(0,(.mpr 0)),(1,(.fn 109 [] [])),(5,(.own 1)),(15,hI)],[qaX,.osl yxQ 51]⟩ [4,13,14] [(some 0,⟨[(5,(.own 1))],[qaX,.osl yxQ 51]⟩)])]) (Γ:=⟨[],[(203,(zxA o)),(132,ydN),(109,(zjV o))],false,[]⟩) (ctok trivial ⟨ydJ,⟨ykZ,⟨ztE,trivial⟩⟩⟩) Tryz.func108
def zdN(o:Ops)(v0:List (Bs×Bs×Bs×Bool×Int))(v1:List yjG)(v2:List (Bs×Bs×List Bs))(v3:List (Bs×Bs×Bs×(List Bs)×(List Bs)×Bool×Bool×Bool×Bool))(v4:List ((Bs×Bs)×Unit)):Option (((List (Bs×Bs×Bs×Bool×Int))×(List yjG)×(List (Bs×Bs×List Bs))×(List (Bs×Bs×Bs×(List Bs)×(List Bs)×Bool×Bool×Bool×Bool))×(List ((Bs×Bs)×Unit))×List yoC)):=
 (zrC o v3).bind fun v5=>some (v0,v1,v2,v5.1,v4,v5.2)
def zkG(o:Ops):SC:=⟨⟨[(0,(.ptr 0 0))],[QWkJ0,qaZ,ypL,qaW,qaX,qaV]⟩,1,[(none,⟨[(0,(.own 6))],[QWkJ0,qaZ,ypL,qaW,qaX,qaV,.osl yxQ 51]⟩)],fun x=>zdN o x.1 x.2.1 x.2.2.1 x.2.2.2.1 x.2.2.2.2⟩
theorem zuK:SCok aB tabs 38 (zkG o):=ydF (o:=o) (η:=[]) (Γ:=⟨[],[(108,(zvT o))],false,[]⟩) (ctok trivial ⟨yeR,trivial⟩) Tryz.func38
end
def τWkK:TE:=[(9,⟨.s,1,[.v .s (show Bs from [])],.s,16⟩),
 (22,⟨.sl 9,1,[.nils],(.sl .s),24⟩),
 (34,⟨.pt 128,1,[.nilp],.un,8⟩),
 (45,⟨.sl 53,1,[.nils],(.sl (.pr (.i .i64) (.pr (.i .i64) (.pr .s (.pr .s (.pr .b (.pr (.pr .s (.sl .s)) (.pr .s (.pr .s (.pr (.sl .s) (.pr (.sl .s) (.pr .b (.pr .b (.pr .b .b)))))))))))))),24⟩),
 (49,⟨.st [(9,0),(22,1)],2,[.v .s (show Bs from []),.nils],(.pr .s (.sl .s)),40⟩),
 (51,⟨.st [(9,0),(9,1),(22,2),(22,3),(4,4),(4,5),(4,6),(4,7)],8,[.v .s (show Bs from []),.v .s (show Bs from []),.nils,.nils,.v .b (show Bool from false),.v .b (show Bool from false),.v .b (show Bool from false),.v .b (show Bool from false)],(.pr .s (.pr .s (.pr (.sl .s) (.pr (.sl .s) (.pr .b (.pr .b (.pr .b .b))))))),88⟩),
 (53,⟨.st [(3,0),(3,1),(9,2),(9,3),(4,4),(49,5),(51,7)],15,[.v (.i .i64) (show Int from 0),.v (.i .i64) (show Int from 0),.v .s (show Bs from []),.v .s (show Bs from []),.v .b (show Bool from false),.v .s (show Bs from []),.nils,.v .s (show Bs from []),.v .s (show Bs from []),.nils,.nils,.v .b (show Bool from false),.v .b (show Bool from false),.v .b (show Bool from false),.v .b (show Bool from false)],(.pr (.i .i64) (.pr (.i .i64) (.pr .s (.pr .s (.pr .b (.pr (.pr .s (.sl .s)) (.pr .s (.pr .s (.pr (.sl .s) (.pr (.sl .s) (.pr .b (.pr .b (.pr .b .b))))))))))))),184⟩),
 (54,⟨.sl 57,1,[.nils],(.sl (.pr .s (.pr (.sl .s) (.pr (.sl .s) (.pr (.sl .s) (.i .i64)))))),24⟩),
 (57,⟨.st [(9,0),(22,1),(22,2),(22,3),(3,4)],5,[.v .s (show Bs from []),.nils,.nils,.nils,.v (.i .i64) (show Int from 0)],(.pr .s (.pr (.sl .s) (.pr (.sl .s) (.pr (.sl .s) (.i .i64))))),96⟩),
 (64,⟨.sl 51,1,[.nils],(.sl (.pr .s (.pr .s (.pr (.sl .s) (.pr (.sl .s) (.pr .b (.pr .b (.pr .b .b)))))))),24⟩),
 (124,⟨.map 9 49,1,[.nilm],(.mp .s (.pr .s (.sl .s))),8⟩),
 (125,⟨.map 9 51,1,[.nilm],(.mp .s (.pr .s (.pr .s (.pr (.sl .s) (.pr (.sl .s) (.pr .b (.pr .b (.pr .b .b)))))))),8⟩),
 (128,⟨.st [(122,0),(123,1),(124,2),(125,3),(126,4)],5,[.nilm,.nilm,.nilm,.nilm,.nilm],(.pr (.mp .s (.pr .s (.pr .s (.pr .b (.i .i64))))) (.pr (.mp .s (.pr (.pr (.sl .s) (.pr (.sl .s) (.sl .s))) (.i .i64))) (.pr (.mp .s (.pr .s (.sl .s))) (.pr (.mp .s (.pr .s (.pr .s (.pr (.sl .s) (.pr (.sl .s) (.pr .b (.pr .b (.pr .b .b)))))))) (.mp (.pr .s .s) .un))))),40⟩)]
theorem τ_okWkK:TEok aB τWkK:=yrP (by kernel_rfl) (by kernel_rfl)
theorem yvO:Tryz.prog.follows .mixedOrders=true:=by kernel_rfl
theorem yvA {G : List (Nat × Obj)} {o : Ops} [zoW G] [zmE G o] {Γ : CT} {η : HT} {f : FuncId} {fn : Func} {c : SC} (hΓ : ∀ B, GB G B -> CTok aB Γ B) (hf : Tryz.prog.funcs[f]? = some fn) (i : (fn.name == "runtime.NumGoroutine") = false := by kernel_rfl) (j : fn.body.isNone = false := by kernel_rfl) (l : bW c.I.sl.length fn.ntmps = true := by kernel_rfl) (r : aG fn.results.toList.length c.nr = true := by kernel_rfl) (e : fnS τWkK Γ η fn c.I c.outs = c.p := by kernel_rfl) : SCok aB G f c := witO (G := G) (o := o) <| xbM yvO τ_okWkK hΓ hf (isFn hf i j) l r e
theorem fpcWkK {G : List (Nat × Obj)} {o : Ops} [zoW G] [zmE G o] {Γ : CT} {η : HT} {f : FuncId} {fn : Func} {c : PC} (hΓ : ∀ B, GB G B -> CTok aB Γ B) (hf : Tryz.prog.funcs[f]? = some fn) (i : (fn.name == "runtime.NumGoroutine") = false := by kernel_rfl) (j : fn.body.isNone = false := by kernel_rfl) (l : bW c.ash.length fn.ntmps = true := by kernel_rfl) (r : c.cl = false := by kernel_rfl) (e : fnP τWkK Γ η fn c.ash c.rts = c.p := by kernel_rfl) : PCok aB G f c := witO (G := G) (o := o) <| xdN yvO τ_okWkK hΓ hf (isFn hf i j) l r e
abbrev yyY:Type:=Bs×List Bs
abbrev YWkK0:Ty:=.pr .s (.sl .s)
abbrev yaQ:Type:=Bs×yyY
abbrev xdZ:Type:=Bs×Bs×(List Bs)×(List Bs)×Bool×Bool×Bool×Bool
abbrev YWkK3:Ty:=.pr .s (.pr .s (.pr (.sl .s) (.pr (.sl .s) (.pr .b (.pr .b (.pr .b .b))))))
abbrev yaS:Type:=Bs×xdZ
abbrev KWkK5:Type:=Int×Int×Bs×Bs×Bool×yyY×xdZ
abbrev YWkK5:Ty:=.pr (.i .i64) (.pr (.i .i64) (.pr .s (.pr .s (.pr .b (.pr YWkK0 YWkK3)))))
abbrev ztG:Type:=(List (Bs×Bs×Bs×Bool×Int))×(List (Bs×((List Bs)×(List Bs)×List Bs)×Int))×(List (Bs×yyY))×(List (Bs×xdZ))×List ((Bs×Bs)×Unit)
abbrev ydG:OSh:=.blk 128 [(.mpr 2),(.mpr 3),(.mpr 4),(.mpr 5),(.mpr 6)]
abbrev yoH:OSh:=.blk 128 [(.mpr 3),(.mpr 4),(.mpr 5),(.mpr 6),(.mpr 7)]
abbrev QWkK2:OSh:=.blk 128 [(.mpr 1),(.mpr 2),(.mpr 3),(.mpr 4),(.mpr 5)]
abbrev zqO:OSh:=.mp true .s YWkK0
abbrev zqU:OSh:=.mp true .s YWkK3
section
variable {tabs:List (Nat×Obj)}[zoW tabs]{o:Ops}[zmE tabs o]
def ygY:SC:=⟨⟨[(0,(.own 0))],[.osl .s 9]⟩,1,[(none,⟨[(0,(.own 1))],[.osl .s 9,.osl .s 9]⟩)],fun(xs:List Bs)=>(app [] xs).bind fun r=>some (xs,r)⟩
theorem ypZ:SCok aB tabs 198 ygY:=wit (G:=tabs)<|xdX rfl ztI
def ynD:PC:=⟨[.h (.sl .s)],[(.sl .s)],fun xs=>some xs,true⟩
theorem ywG:PCok aB tabs 61 ynD:=wit (G:=tabs)<|ylV yvO τ_okWkK Tryz.func61 (isFn Tryz.func61) rfl (by kernel_rfl) rfl (fun _=>by kernel_rfl)
def zkW(_o:Ops)(v0:Bs)(v1:List Bs):Option ((Bs×(List Bs)×List Bs)):=
 ((fun(xs:List Bs)=>(app ([]:List Bs) xs).bind fun r=>some (xs,r)) v1).bind fun v2=>some (v0,v2.2,v2.1)
def zrH(o:Ops):SC:=⟨⟨[(0,(.ag [hS,(.own 0)]))],[.osl .s 9]⟩,1,[(none,⟨[(0,(.ag [hS,(.hc .s)]))],[.osl .s 9]⟩)],fun x=>zkW o x.1 x.2⟩
theorem yaR:SCok aB tabs 105 (zrH o):=yvA (o:=o) (η:=[]) (Γ:=⟨[(61,ynD)],[(198,ygY)],false,[]⟩) (ctok ⟨ywG,trivial⟩ ⟨ypZ,trivial⟩) Tryz.func105
def zkQ(_o:Ops)(v0:Bs)(v1:List Bs)(v2:List (Bs×Bs×Bs×Bool×Int))(v3:List (Bs×((List Bs)×(List Bs)×List Bs)×Int))(v4:List yaQ)(v5:List yaS)(v6:List ((Bs×Bs)×Unit)):Option ((Int×(List Bs)×ztG)⊕((List Bs)×(List (Bs×Bs×Bs×Bool×Int))×(List (Bs×((List Bs)×(List Bs)×List Bs)×Int))×(List yaQ)×(List yaS)×(List ((Bs×Bs)×Unit))×Bs)):=
 let _v8:yyY:=zdW keqS v4 v0 (([]:Bs),([]:List Bs))
 bif(!(mhas keqS v4 v0))then(bif decide ((v4.length:Int)≥32)then some (.inl ((124:Int),v1,v2,v3,v4,v5,v6))else some (.inr (v1,v2,v3,v4,v5,v6,v0)))else some (.inr (v1,v2,v3,v4,v5,v6,v0))
def zdU(o:Ops)(v0:Bs)(v1:List Bs)(v2:List (Bs×Bs×Bs×Bool×Int))(v3:List (Bs×((List Bs)×(List Bs)×List Bs)×Int))(v4:List yaQ)(v5:List yaS)(v6:List ((Bs×Bs)×Unit)):Option ((Int×(List Bs)×ztG)):=
 (zjL o (v0,v1)).bind fun v7=>bif(!v7)then some ((120:Int),v1,v2,v3,v4,v5,v6)else((zkQ o v0 v1 v2 v3 v4 v5 v6).bind fun v9=>match v9 with
 |.inl v10=>some v10|.inr v11=>((zkW o v11.2.2.2.2.2.2 v11.1).bind fun v12=>let v13:List yaQ:=mset keqS kltS v11.2.2.2.1 v11.2.2.2.2.2.2 (v12.1,v12.2.1)
 some ((0:Int),v12.2.2,v11.2.1,v11.2.2.1,v13,v11.2.2.2.2.1,v11.2.2.2.2.2.1)))
abbrev qaY:OSh:=.mp true .s (.pr (.pr (.sl .s) (.pr (.sl .s) (.sl .s))) (.i .i64))
def zkK(o:Ops):SC:=⟨⟨[(0,(.ptr 0 0)),(1,(.ag [hS,(.own 1)]))],[ydG,.osl .s 9,qaZ,qaY,zqO,zqU,qaV]⟩,1,[(none,⟨[(0,hI)],[ydG,.osl .s 9,qaZ,qaY,.mp false .s YWkK0,zqU,qaV]⟩)],fun x=>zdU o x.1 x.2.1 x.2.2.1 x.2.2.2.1 x.2.2.2.2.1 x.2.2.2.2.2.1 x.2.2.2.2.2.2⟩
theorem zuF:SCok aB tabs 36 (zkK o):=yvA (o:=o) (η:=[(2000006,.join [] [] [(some 1000000,⟨[(4,hI)],[ydG,.osl .s 9,qaZ,qaY,zqO,zqU,qaV]⟩),(none,⟨[(0,(.ptr 0 0)),(3,(.ptr 7 0))],[ydG,.osl .s 9,qaZ,qaY,zqO,zqU,qaV,.blk 49 [hS,(.own 1)]]⟩)]),
 (4000003,.sch (zpu 0 9++[(.pu,9,[8]),(.mn,10,[]),(.mn,11,[8]),(.pu,12,[])])),
 (4000006,.sch [(.pu,0,[1]),(.pu,1,[1]),(.pu,2,[1]),(.pu,3,[1]),(.pu,4,[1]),(.pu,5,[1]),(.pu,6,[]),(.mn,7,[1]),(.mn,8,[0,1,2,3,4,5,6,7,8])])]) (Γ:=⟨[(104,(zpI o))],[(105,(zrH o))],false,[]⟩) (ctok ⟨ztX,trivial⟩ ⟨yaR,trivial⟩) Tryz.func36
def zqT(_o:Ops)(v0:Bs)(v1:Bs)(v2:Bool)(v3:Bool)(v4:Bool)(v5:Bool)(v6:List Bs)(v7:List Bs):Option ((Bs×Bs×(List Bs)×(List Bs)×Bool×Bool×Bool×Bool×(List Bs)×List Bs)):=
 ((fun(xs:List Bs)=>(app ([]:List Bs) xs).bind fun r=>some (xs,r)) v6).bind fun v8=>((fun(xs:List Bs)=>(app ([]:List Bs) xs).bind fun r=>some (xs,r)) v7).bind fun v9=>some (v0,v1,v8.2,v9.2,v2,v3,v4,v5,v8.1,v9.1)
def zuX(o:Ops):SC:=⟨⟨[(0,(.ag [hS,hS,(.own 0),(.own 1),hB,hB,hB,hB]))],[.osl .s 9,.osl .s 9]⟩,1,[(none,⟨[(0,(.ag [hS,hS,(.hc .s),(.hc .s),hB,hB,hB,hB]))],[.osl .s 9,.osl .s 9]⟩)],fun x=>zqT o x.1 x.2.1 x.2.2.1 x.2.2.2.1 x.2.2.2.2.1 x.2.2.2.2.2.1 x.2.2.2.2.2.2.1 x.2.2.2.2.2.2.2⟩
theorem yeE:SCok aB tabs 107 (zuX o):=yvA (o:=o) (η:=[(4000001,.sch [(.pu,0,[]),(.pu,1,[]),(.pu,4,[0,5]),(.pu,5,[0,5]),(.mn,2,[0]),(.mn,3,[5]),(.pu,8,[1,7]),(.mn,6,[1]),(.mn,7,[7]),(.mn,9,[2]),(.pu,10,[]),(.mn,11,[2])])]) (Γ:=⟨[(61,ynD)],[(198,ygY)],false,[]⟩) (ctok ⟨ywG,trivial⟩ ⟨ypZ,trivial⟩) Tryz.func107
def zjA(_o:Ops)(v0:Bs)(v1:Bs)(v2:Bool)(v3:Bool)(v4:Bool)(v5:Bool)(v6:List Bs)(v7:List Bs)(v8:List (Bs×Bs×Bs×Bool×Int))(v9:List (Bs×((List Bs)×(List Bs)×List Bs)×Int))(v10:List yaQ)(v11:List yaS)(v12:List ((Bs×Bs)×Unit)):Option ((Int×(List Bs)×(List Bs)×ztG)⊕((List Bs)×(List Bs)×(List (Bs×Bs×Bs×Bool×Int))×(List (Bs×((List Bs)×(List Bs)×List Bs)×Int))×(List yaQ)×(List yaS)×(List ((Bs×Bs)×Unit))×Bs×Bs×Bool×Bool×Bool×Bool)):=
 let _v14:xdZ:=zdW keqS v11 v0 (([]:Bs),([]:Bs),([]:List Bs),([]:List Bs),false,false,false,false)
 bif(!(mhas keqS v11 v0))then(bif decide ((v11.length:Int)≥32)then some (.inl ((124:Int),v6,v7,v8,v9,v10,v11,v12))else some (.inr (v6,v7,v8,v9,v10,v11,v12,v0,v1,v2,v3,v4,v5)))else some (.inr (v6,v7,v8,v9,v10,v11,v12,v0,v1,v2,v3,v4,v5))
def zcP(o:Ops)(v0:Bs)(v1:Bs)(v2:Bool)(v3:Bool)(v4:Bool)(v5:Bool)(v6:List Bs)(v7:List Bs)(v8:List (Bs×Bs×Bs×Bool×Int))(v9:List (Bs×((List Bs)×(List Bs)×List Bs)×Int))(v10:List yaQ)(v11:List yaS)(v12:List ((Bs×Bs)×Unit)):Option ((Int×(List Bs)×(List Bs)×ztG)):=
 (zgP o (v0,v1,v6,v7,v2,v3,v4,v5)).bind fun v13=>bif(!v13)then some ((120:Int),v6,v7,v8,v9,v10,v11,v12)else((zjA o v0 v1 v2 v3 v4 v5 v6 v7 v8 v9 v10 v11 v12).bind fun v15=>match v15 with
 |.inl v16=>some v16|.inr v17=>((zqT o v17.2.2.2.2.2.2.2.1 v17.2.2.2.2.2.2.2.2.1 v17.2.2.2.2.2.2.2.2.2.1 v17.2.2.2.2.2.2.2.2.2.2.1 v17.2.2.2.2.2.2.2.2.2.2.2.1 v17.2.2.2.2.2.2.2.2.2.2.2.2 v17.1 v17.2.1).bind fun v18=>let v19:List yaS:=mset keqS kltS v17.2.2.2.2.2.1 v17.2.2.2.2.2.2.2.1 (v18.1,v18.2.1,v18.2.2.1,v18.2.2.2.1,v18.2.2.2.2.1,v18.2.2.2.2.2.1,v18.2.2.2.2.2.2.1,v18.2.2.2.2.2.2.2.1)
 some ((0:Int),v18.2.2.2.2.2.2.2.2.1,v18.2.2.2.2.2.2.2.2.2,v17.2.2.1,v17.2.2.2.1,v17.2.2.2.2.1,v19,v17.2.2.2.2.2.2.1)))
def ziR(o:Ops):SC:=⟨⟨[(0,(.ptr 0 0)),(1,(.ag [hS,hS,(.own 1),(.own 2),hB,hB,hB,hB]))],[yoH,.osl .s 9,.osl .s 9,qaZ,qaY,zqO,zqU,qaV]⟩,1,[(none,⟨[(0,hI)],[yoH,.osl .s 9,.osl .s 9,qaZ,qaY,zqO,.mp false .s YWkK3,qaV]⟩)],fun x=>zcP o x.1 x.2.1 x.2.2.1 x.2.2.2.1 x.2.2.2.2.1 x.2.2.2.2.2.1 x.2.2.2.2.2.2.1 x.2.2.2.2.2.2.2.1 x.2.2.2.2.2.2.2.2.1 x.2.2.2.2.2.2.2.2.2.1 x.2.2.2.2.2.2.2.2.2.2.1 x.2.2.2.2.2.2.2.2.2.2.2.1 x.2.2.2.2.2.2.2.2.2.2.2.2⟩
theorem zsG:SCok aB tabs 37 (ziR o):=yvA (o:=o) (η:=[(2000006,.join [] [] [(some 1000000,⟨[(4,hI)],[yoH,.osl .s 9,.osl .s 9,qaZ,qaY,zqO,zqU,qaV]⟩),(none,⟨[(0,(.ptr 0 0)),(3,(.ptr 8 0))],[yoH,.osl .s 9,.osl .s 9,qaZ,qaY,zqO,zqU,qaV,.blk 51 [hS,hS,(.own 1),(.own 2),hB,hB,hB,hB]]⟩)]),
 (4000003,.sch (zpu 0 9++[(.pu,9,[9]),(.mn,10,[]),(.mn,11,[9]),(.pu,12,[])])),
 (4000006,.sch [(.pu,0,[1,2]),(.pu,1,[1,2]),(.pu,2,[1,2]),(.pu,3,[1,2]),(.pu,4,[1,2]),(.pu,5,[1,2]),(.pu,6,[]),(.mn,7,[1,2]),(.mn,8,[0,1,2,3,4,5,6,7,8,9])])]) (Γ:=⟨[(106,(zkS o))],[(107,(zuX o))],false,[]⟩) (ctok ⟨zqM,trivial⟩ ⟨yeE,trivial⟩) Tryz.func37
noncomputable def zdV(o:Ops)(v0:List KWkK5)(v4:Int)(v5:Bs)(v6:List Bs)(v7:Bs)(v8:Bs)(v9:List Bs)(v10:List Bs)(v11:Bool)(v12:Bool)(v13:Bool)(v14:Bool)(v15:List (Bs×Bs×Bs×Bool×Int))(v16:List (Bs×((List Bs)×(List Bs)×List Bs)×Int))(v17:List yaQ)(v18:List yaS)(v19:List ((Bs×Bs)×Unit)):Option ((Int×Bs×(List Bs)×Bs×Bs×(List Bs)×(List Bs)×Bool×Bool×Bool×Bool×ztG)⊕((Bs×(List Bs)×Bs×Bs×(List Bs)×(List Bs)×Bool×Bool×Bool×Bool×ztG))):=
 bif decide (v4<(v0.length:Int))then((idx v0 v4).bind fun v20=>(zdK o v20 v15 v16 v17 v18 v19).bind fun v21=>some (.inl (w64 (v4+1),v5,v6,v7,v8,v9,v10,v11,v12,v13,v14,v21.2)))else some (.inr (v5,v6,v7,v8,v9,v10,v11,v12,v13,v14,v15,v16,v17,v18,v19))
noncomputable def zcA(_o:Ops)(v29:Int)(v30:List Bs)(v31:List Bs)(v32:List Bs)(v33:List (Bs×Bs×Bs×Bool×Int))(v34:List (Bs×((List Bs)×(List Bs)×List Bs)×Int))(v35:List yaQ)(v36:List yaS)(v37:List ((Bs×Bs)×Unit)):Option ((Int×(List Bs)×(List Bs)×(List Bs)×ztG)⊕(((List Bs)×(List Bs)×ztG))):=
 bif decide (v29<(v30.length:Int))then((chk (decide ((0:Int)<=v29)&&decide (v29<(v30.length:Int)))).bind fun _=>(setL v30 v29 ([111,118,101,114]:Bs)).bind fun v38=>some (.inl (w64 (v29+1),v38,v31,v32,v33,v34,v35,v36,v37)))else some (.inr (v31,v32,v33,v34,v35,v36,v37))
noncomputable def zcD(_o:Ops)(v40:Int)(v41:List Bs)(v42:List Bs)(v43:List (Bs×Bs×Bs×Bool×Int))(v44:List (Bs×((List Bs)×(List Bs)×List Bs)×Int))(v45:List yaQ)(v46:List yaS)(v47:List ((Bs×Bs)×Unit)):Option ((Int×(List Bs)×(List Bs)×ztG)⊕(((List Bs)×ztG))):=
 bif decide (v40<(v41.length:Int))then((chk (decide ((0:Int)<=v40)&&decide (v40<(v41.length:Int)))).bind fun _=>(setL v41 v40 ([111,118,101,114]:Bs)).bind fun v48=>some (.inl (w64 (v40+1),v48,v42,v43,v44,v45,v46,v47)))else some (.inr (v42,v43,v44,v45,v46,v47))
noncomputable def zbZ(_o:Ops)(v50:Int)(v51:List Bs)(v52:List (Bs×Bs×Bs×Bool×Int))(v53:List (Bs×((List Bs)×(List Bs)×List Bs)×Int))(v54:List yaQ)(v55:List yaS)(v56:List ((Bs×Bs)×Unit)):Option ((Int×(List Bs)×ztG)⊕(ztG)):=
 bif decide (v50<(v51.length:Int))then((chk (decide ((0:Int)<=v50)&&decide (v50<(v51.length:Int)))).bind fun _=>(setL v51 v50 ([111,118,101,114]:Bs)).bind fun v57=>some (.inl (w64 (v50+1),v57,v52,v53,v54,v55,v56)))else some (.inr (v52,v53,v54,v55,v56))
noncomputable def zdX(_o:Ops)(v60:Int)(v67:Int)(v68:List (Bs×Nat×Nat×Nat×Int))(v69:List (Bs×Bs×Bs×Bool×Int))(v70:List (Bs×((List Bs)×(List Bs)×List Bs)×Int))(v71:List yaQ)(v72:List yaS)(v73:List ((Bs×Bs)×Unit)):Option ((Int×(List (Bs×Nat×Nat×Nat×Int))×ztG)⊕(((List (Bs×Nat×Nat×Nat×Int))×ztG))):=
 (chk (decide ((0:Int)<=v60)&&decide (v60<(v68.length:Int)))).bind fun _=>(idx v68 v60).bind fun v74=>bif decide (v67<(v74.2.1:Int))then((chk (decide ((0:Int)<=v60)&&decide (v60<(v68.length:Int)))).bind fun _=>(idx v68 v60).bind fun v75=>(chk (decide ((0:Int)<=v67)&&decide (v67<(v75.2.1:Int)))).bind fun _=>some (.inl (w64 (v67+1),v68,v69,v70,v71,v72,v73)))else some (.inr (v68,v69,v70,v71,v72,v73))
noncomputable def zdY(_o:Ops)(v60:Int)(v77:Int)(v78:List (Bs×Nat×Nat×Nat×Int))(v79:List (Bs×Bs×Bs×Bool×Int))(v80:List (Bs×((List Bs)×(List Bs)×List Bs)×Int))(v81:List yaQ)(v82:List yaS)(v83:List ((Bs×Bs)×Unit)):Option ((Int×(List (Bs×Nat×Nat×Nat×Int))×ztG)⊕(((List (Bs×Nat×Nat×Nat×Int))×ztG))):=
 (chk (decide ((0:Int)<=v60)&&decide (v60<(v78.length:Int)))).bind fun _=>(idx v78 v60).bind fun v84=>bif decide (v77<(v84.2.2.1:Int))then((chk (decide ((0:Int)<=v60)&&decide (v60<(v78.length:Int)))).bind fun _=>(idx v78 v60).bind fun v85=>(chk (decide ((0:Int)<=v77)&&decide (v77<(v85.2.2.1:Int)))).bind fun _=>some (.inl (w64 (v77+1),v78,v79,v80,v81,v82,v83)))else some (.inr (v78,v79,v80,v81,v82,v83))
noncomputable def zcC(o:Ops)(v60:Int)(v61:List (Bs×Nat×Nat×Nat×Int))(v62:List (Bs×Bs×Bs×Bool×Int))(v63:List (Bs×((List Bs)×(List Bs)×List Bs)×Int))(v64:List yaQ)(v65:List yaS)(v66:List ((Bs×Bs)×Unit)):Option ((Int×(List (Bs×Nat×Nat×Nat×Int))×ztG)⊕(ztG)):=
 bif decide (v60<(v61.length:Int))then((iter (fun x=>zdX o v60 x.1 x.2.1 x.2.2.1 x.2.2.2.1 x.2.2.2.2.1 x.2.2.2.2.2.1 x.2.2.2.2.2.2) ((0:Int),v61,v62,v63,v64,v65,v66)).bind fun v76=>(iter (fun x=>zdY o v60 x.1 x.2.1 x.2.2.1 x.2.2.2.1 x.2.2.2.2.1 x.2.2.2.2.2.1 x.2.2.2.2.2.2) ((0:Int),v76)).bind fun v86=>some (.inl (w64 (v60+1),v86)))else some (.inr (v62,v63,v64,v65,v66))
noncomputable def zdZ(_o:Ops)(v89:Int)(v96:Int)(v97:List (Bs×Bs×Nat×Nat×Bool×Bool×Bool×Bool))(v98:List (Bs×Bs×Bs×Bool×Int))(v99:List (Bs×((List Bs)×(List Bs)×List Bs)×Int))(v100:List yaQ)(v101:List yaS)(v102:List ((Bs×Bs)×Unit)):Option ((Int×(List (Bs×Bs×Nat×Nat×Bool×Bool×Bool×Bool))×ztG)⊕(((List (Bs×Bs×Nat×Nat×Bool×Bool×Bool×Bool))×ztG))):=
 (chk (decide ((0:Int)<=v89)&&decide (v89<(v97.length:Int)))).bind fun _=>(idx v97 v89).bind fun v103=>bif decide (v96<(v103.2.2.2.1:Int))then((chk (decide ((0:Int)<=v89)&&decide (v89<(v97.length:Int)))).bind fun _=>(idx v97 v89).bind fun v104=>(chk (decide ((0:Int)<=v96)&&decide (v96<(v104.2.2.2.1:Int)))).bind fun _=>some (.inl (w64 (v96+1),v97,v98,v99,v100,v101,v102)))else some (.inr (v97,v98,v99,v100,v101,v102))
noncomputable def zcB(o:Ops)(v89:Int)(v90:List (Bs×Bs×Nat×Nat×Bool×Bool×Bool×Bool))(v91:List (Bs×Bs×Bs×Bool×Int))(v92:List (Bs×((List Bs)×(List Bs)×List Bs)×Int))(v93:List yaQ)(v94:List yaS)(v95:List ((Bs×Bs)×Unit)):Option ((Int×(List (Bs×Bs×Nat×Nat×Bool×Bool×Bool×Bool))×ztG)⊕(ztG)):=
 bif decide (v89<(v90.length:Int))then((iter (fun x=>zdZ o v89 x.1 x.2.1 x.2.2.1 x.2.2.2.1 x.2.2.2.2.1 x.2.2.2.2.2.1 x.2.2.2.2.2.2) ((0:Int),v90,v91,v92,v93,v94,v95)).bind fun v105=>some (.inl (w64 (v89+1),v105)))else some (.inr (v91,v92,v93,v94,v95))
noncomputable def zeN(o:Ops)(v0:List KWkK5)(v1:yyY)(v2:xdZ):Option (Bool):=
 (ziL o).bind fun v3=>(iter (fun x=>zdV o v0 x.1 x.2.1 x.2.2.1 x.2.2.2.1 x.2.2.2.2.1 x.2.2.2.2.2.1 x.2.2.2.2.2.2.1 x.2.2.2.2.2.2.2.1 x.2.2.2.2.2.2.2.2.1 x.2.2.2.2.2.2.2.2.2.1 x.2.2.2.2.2.2.2.2.2.2.1 x.2.2.2.2.2.2.2.2.2.2.2.1 x.2.2.2.2.2.2.2.2.2.2.2.2.1 x.2.2.2.2.2.2.2.2.2.2.2.2.2.1 x.2.2.2.2.2.2.2.2.2.2.2.2.2.2.1 x.2.2.2.2.2.2.2.2.2.2.2.2.2.2.2) ((0:Int),v1.1,v1.2,v2.1,v2.2.1,v2.2.2.1,v2.2.2.2.1,v2.2.2.2.2.1,v2.2.2.2.2.2.1,v2.2.2.2.2.2.2.1,v2.2.2.2.2.2.2.2,v3)).bind fun v22=>(app ([]:List Bs) v22.2.1).bind fun v23=>(app ([]:List Bs) v22.2.2.2.2.1).bind fun v24=>(app ([]:List Bs) v22.2.2.2.2.2.1).bind fun v25=>(zdU o v22.1 v23 v22.2.2.2.2.2.2.2.2.2.2.1 v22.2.2.2.2.2.2.2.2.2.2.2.1 v22.2.2.2.2.2.2.2.2.2.2.2.2.1 v22.2.2.2.2.2.2.2.2.2.2.2.2.2.1 v22.2.2.2.2.2.2.2.2.2.2.2.2.2.2).bind fun v26=>(zcP o v22.2.2.1 v22.2.2.2.1 v22.2.2.2.2.2.2.1 v22.2.2.2.2.2.2.2.1 v22.2.2.2.2.2.2.2.2.1 v22.2.2.2.2.2.2.2.2.2.1 v24 v25 v26.2.2.1 v26.2.2.2.1 v26.2.2.2.2.1 v26.2.2.2.2.2.1 v26.2.2.2.2.2.2).bind fun v27=>(zbP o v27.2.2.2.1 v27.2.2.2.2.1 v27.2.2.2.2.2.1 v27.2.2.2.2.2.2.1 v27.2.2.2.2.2.2.2).bind fun v28=>(iter (fun x=>zcA o x.1 x.2.1 x.2.2.1 x.2.2.2.1 x.2.2.2.2.1 x.2.2.2.2.2.1 x.2.2.2.2.2.2.1 x.2.2.2.2.2.2.2.1 x.2.2.2.2.2.2.2.2) ((0:Int),v26.2.1,v27.2.1,v27.2.2.1,v28.2)).bind fun v39=>(iter (fun x=>zcD o x.1 x.2.1 x.2.2.1 x.2.2.2.1 x.2.2.2.2.1 x.2.2.2.2.2.1 x.2.2.2.2.2.2.1 x.2.2.2.2.2.2.2) ((0:Int),v39)).bind fun v49=>(iter (fun x=>zbZ o x.1 x.2.1 x.2.2.1 x.2.2.2.1 x.2.2.2.2.1 x.2.2.2.2.2.1 x.2.2.2.2.2.2) ((0:Int),v49)).bind fun v58=>(zeJ o v58.1 v58.2.1 v58.2.2.1 v58.2.2.2.1 v58.2.2.2.2).bind fun v59=>(iter (fun x=>zcC o x.1 x.2.1 x.2.2.1 x.2.2.2.1 x.2.2.2.2.1 x.2.2.2.2.2.1 x.2.2.2.2.2.2) ((0:Int),v59.2.2.2.2.2,v59.1,v59.2.1,v59.2.2.1,v59.2.2.2.1,v59.2.2.2.2.1)).bind fun v87=>(zdN o v87.1 v87.2.1 v87.2.2.1 v87.2.2.2.1 v87.2.2.2.2).bind fun v88=>(iter (fun x=>zcB o x.1 x.2.1 x.2.2.1 x.2.2.2.1 x.2.2.2.2.1 x.2.2.2.2.2.1 x.2.2.2.2.2.2) ((0:Int),v88.2.2.2.2.2,v88.1,v88.2.1,v88.2.2.1,v88.2.2.2.1,v88.2.2.2.2.1)).bind fun v106=>(zbP o v106.1 v106.2.1 v106.2.2.1 v106.2.2.2.1 v106.2.2.2.2).bind fun v107=>(zcZ o v107.1 v28.1).bind fun v108=>bif v108 then((some true).bind fun v109=>some v109)else(some false)
noncomputable def zrB(o:Ops):PC:=⟨[(.h (.sl YWkK5)),(.h YWkK0),(.h YWkK3)],[.b],fun x=>zeN o x.1 x.2.1 x.2.2,false⟩
theorem yfQ(hJ:(tabs.all fun p=>!isJ p.2)=true):PCok aB tabs 8 (zrB o):=witO (G:=tabs) (o:=o)<|fn_pcJ (η:=[(200005,.loop [] ⟨[(4,(.ptr 0 0)),(5,(.ptr 1 0)),(7,(.ptr 2 0)),(8,hI)],[.blk 49 [hS,(.h (.sl .s))],.blk 51 [hS,hS,(.h (.sl .s)),(.h (.sl .s)),hB,hB,hB,hB],yoH,qaZ,qaY,zqO,zqU,qaV]⟩ [0,6] [(some 0,⟨[(4,(.ptr 0 0)),(5,(.ptr 1 0)),(7,(.ptr 2 0))],[.blk 49 [hS,(.h (.sl .s))],.blk 51 [hS,hS,(.h (.sl .s)),(.h (.sl .s)),hB,hB,hB,hB],yoH,qaZ,qaY,zqO,zqU,qaV]⟩)]),
 (200016,.loop [] ⟨[(7,(.ptr 0 0)),(9,(.own 1)),(10,(.own 2)),(11,(.own 3)),(14,hI)],[.blk 128 [(.mpr 4),(.mpr 5),(.mpr 6),(.mpr 7),(.mpr 8)],.osl .s 9,.osl .s 9,.osl .s 9,qaZ,qaY,zqO,zqU,qaV]⟩ [6,13] [(some 2,⟨[(7,(.ptr 0 0)),(10,(.own 1)),(11,(.own 2))],[yoH,.osl .s 9,.osl .s 9,qaZ,qaY,zqO,zqU,qaV]⟩)]),
 (200020,.loop [] ⟨[(7,(.ptr 0 0)),(10,(.own 1)),(11,(.own 2)),(15,hI)],[yoH,.osl .s 9,.osl .s 9,qaZ,qaY,zqO,zqU,qaV]⟩ [6,13] [(some 4,⟨[(7,(.ptr 0 0)),(11,(.own 1))],[ydG,.osl .s 9,qaZ,qaY,zqO,zqU,qaV]⟩)]),
 (200024,.loop [] ⟨[(7,(.ptr 0 0)),(11,(.own 1)),(16,hI)],[ydG,.osl .s 9,qaZ,qaY,zqO,zqU,qaV]⟩ [6,13] [(some 6,⟨[(7,(.ptr 0 0))],[QWkK2,qaZ,qaY,zqO,zqU,qaV]⟩)]),
 (200032,.loop [] ⟨[(7,(.ptr 0 0)),(17,(.own 1)),(19,hI)],[ydG,.osl (.pr .s (.pr (.jk 9) (.pr (.jk 9) (.pr (.jk 9) (.i .i64))))) 57,qaZ,qaY,zqO,zqU,qaV]⟩ [6,13,18] [(some 10,⟨[(7,(.ptr 0 0)),(17,(.own 1))],[ydG,.osl (.pr .s (.pr (.jk 9) (.pr (.jk 9) (.pr (.jk 9) (.i .i64))))) 57,qaZ,qaY,zqO,zqU,qaV]⟩)]),
 (200036,.loop [] ⟨[(7,(.ptr 0 0)),(17,(.own 1)),(20,hI)],[ydG,.osl (.pr .s (.pr (.jk 9) (.pr (.jk 9) (.pr (.jk 9) (.i .i64))))) 57,qaZ,qaY,zqO,zqU,qaV]⟩ [6,13,18] [(some 12,⟨[(7,(.ptr 0 0)),(17,(.own 1))],[ydG,.osl (.pr .s (.pr (.jk 9) (.pr (.jk 9) (.pr (.jk 9) (.i .i64))))) 57,qaZ,qaY,zqO,zqU,qaV]⟩)]),
 (200029,.loop [] ⟨[(7,(.ptr 0 0)),(17,(.own 1)),(18,hI)],[ydG,.osl (.pr .s (.pr (.jk 9) (.pr (.jk 9) (.pr (.jk 9) (.i .i64))))) 57,qaZ,qaY,zqO,zqU,qaV]⟩ [6,13] [(some 8,⟨[(7,(.ptr 0 0))],[QWkK2,qaZ,qaY,zqO,zqU,qaV]⟩)]),
 (200044,.loop [] ⟨[(7,(.ptr 0 0)),(21,(.own 1)),(23,hI)],[ydG,.osl (.pr .s (.pr .s (.pr (.jk 9) (.pr (.jk 9) (.pr .b (.pr .b (.pr .b .b))))))) 51,qaZ,qaY,zqO,zqU,qaV]⟩ [6,13,22] [(some 16,⟨[(7,(.ptr 0 0)),(21,(.own 1))],[ydG,.osl (.pr .s (.pr .s (.pr (.jk 9) (.pr (.jk 9) (.pr .b (.pr .b (.pr .b .b))))))) 51,qaZ,qaY,zqO,zqU,qaV]⟩)]),
 (200041,.loop [] ⟨[(7,(.ptr 0 0)),(21,(.own 1)),(22,hI)],[ydG,.osl (.pr .s (.pr .s (.pr (.jk 9) (.pr (.jk 9) (.pr .b (.pr .b (.pr .b .b))))))) 51,qaZ,qaY,zqO,zqU,qaV]⟩ [6,13] [(some 14,⟨[(7,(.ptr 0 0))],[QWkK2,qaZ,qaY,zqO,zqU,qaV]⟩)]),
 (4000008,.sch ([(.pu,1,[]),(.pu,2,[]),(.la,4,[]),(.pu,5,[8]),(.pu,6,[8]),(.la,8,[]),(.pu,9,[8,9]),(.pu,10,[8,9]),(.mn,0,[]),(.mn,3,[8]),(.rv,4,[]),(.mn,7,[9]),(.rv,8,[]),(.mn,11,[10])]++zpu 12 3))]) (Γ:=⟨[(27,(zjT o)),(24,yuH)],[(30,(zrK o)),(31,(zoN o)),(36,(zkK o)),(37,(ziR o)),(29,(ziH o)),(32,(zlH o)),(38,(zkG o))],false,[(999999999,[])]⟩) yvO τ_okWkK (ctokJ ⟨zsZ,⟨fixed_pk,trivial⟩⟩ ⟨zwM,⟨zxU,⟨zuF,⟨zsG,⟨zqK,⟨zvM,⟨zuK,trivial⟩⟩⟩⟩⟩⟩⟩) hJ (fun _=>rfl) Tryz.func8 (isFn Tryz.func8) (by kernel_rfl) rfl (by kernel_rfl)
end
end Go.Proofs.YtopanhneegpgcaaGreatDoor.Am
