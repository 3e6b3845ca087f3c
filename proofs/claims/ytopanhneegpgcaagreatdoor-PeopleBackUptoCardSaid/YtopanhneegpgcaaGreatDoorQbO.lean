/- Parts of one proof. Conditions: as each theorem says. -/
import Derived.Test.YtopanhneegpgcaaGreatDoorRows
import Derived.Test.YtopanhneegpgcaaGreatDoorTie
import Derived.Test.YtopanhneegpgcaaGreatDoorCards
import Derived.ProofKit
import Derived.OpenShut
import Derived.Carry
import Derived.JoinedCond
import Derived.ChangeMaps5
import Derived.Deep.SlicePairs
import Derived.Deep.DeepHandedRow
import Derived.Lib.LaidTab
import Derived.SevenTiedAt
import Derived.KernelRfl
import Derived.Test.YtopanhneegpgcaaGreatDoorQbN
namespace Go.Proofs.YtopanhneegpgcaaGreatDoor.Am
open Go Go.RowKit
theorem xhD{γ:Type}{es:List (L8×γ)}(hR:Ri kltS es):zsN (es.map (·.1))=true:=ydA.2 (List.pairwise_map.2 hR)
theorem zyW{γ:Type}{es:List (L8×γ)}(hR:Ri kltS es)(hl:es.length<=1048576)(hk:∀p∈es,p.1.length<=68719476736):zoT es=some (es.map (·.1),es):=by
 unfold zoT yeY
 rw[decide_eq_true hl,xhD hR,List.all_eq_true.2 fun p hp=>decide_eq_true (hk p hp)]
 rfl
theorem ybX{γ δ:Type}{es:List (L8×γ)}{body:Int×List (L8×γ)×List δ->Option ((Int×List (L8×γ)×List δ)⊕(List (L8×γ)×List δ))}{tell:L8×γ->δ}(hl:es.length<=1048576)
  (hb:∀(i:Nat) (hi:i<es.length) (acc:List δ),acc.length<=1048576->body ((i:Int),es,acc)=some (.inl (((i+1:Nat):Int),es,acc++[tell es[i]])))
  (he:∀acc,body ((es.length:Int),es,acc)=some (.inr (es,acc))):iter body ((0:Int),es,([]:List δ))=some (es,es.map tell):=by
 have key:∀(f i:Nat) (acc:List δ),f+i=es.length->acc.length+f<=1048576->∀g,f<g->zoW body g ((i:Int),es,acc)=some (es,acc++(es.drop i).map tell):=by
  intro f
  induction f with
  |zero=>
   intro i acc hi _ g hg
   obtain⟨g,rfl⟩:∃m,g=m+1:=⟨g-1,by omega⟩
   have hi:i=es.length:=by omega
   subst hi
   rw[zdA (he acc),List.drop_length,List.map_nil,List.append_nil]
  |succ f ih=>
   intro i acc hi ha g hg
   obtain⟨g,rfl⟩:∃m,g=m+1:=⟨g-1,by omega⟩
   have hlt:i<es.length:=by omega
   rw[zcE (hb i hlt acc (by omega)),ih (i+1) _ (by omega) (by simp;omega) g (by omega),List.drop_eq_getElem_cons hlt,List.map_cons,List.append_assoc]
   rfl
 have:=key es.length 0 [] (by omega) (by simp;omega) FU (by unfold FU;omega)
 rw[List.drop_zero,List.nil_append]at this
 exact this
def usE(s:PS):List Us:=s.1.map (·.2)
def grE(s:PS):List (L8×List L8×List L8×List L8×Int):=s.2.1.map fun p=>(p.1,p.2.1.1,p.2.1.2.1,p.2.1.2.2,p.2.2)
def roE(s:PS):List Ro:=s.2.2.1.map (·.2)
def clE(s:PS):List Cl:=s.2.2.2.1.map (·.2)
def maE(s:PS):List (L8×L8):=s.2.2.2.2.map (·.1)
theorem ysT{n:Nat}(h:n<=1048576):chk (decide ((0:Int)<=(n:Int))&&decide ((n:Int)<=(LIM:Int)))=some ():=by
 rw[decide_eq_true (show(0:Int)<=(n:Int) by omega),decide_eq_true (show(n:Int)<=(LIM:Int) by unfold LIM;omega)];rfl
theorem mk0{α:Type}(z:α):Go.Proofs.YtopanhneegpgcaaGreatDoor.mkL (0:Int) z=some []:=rfl
theorem get_at{γ:Type}{es:List (L8×γ)}(hR:Ri kltS es){i:Nat}(hi:i<es.length)(z:γ):zfA keqS es es[i].1 z=es[i].2:=by
 rw[zrR,kS.get_mem hR (k:=es[i].1) (v:=es[i].2) (List.getElem_mem hi)];rfl
theorem yrS{γ:Type}{es:List (L8×γ)}{i:Nat}(hi:i<es.length):idx (es.map (·.1)) (i:Int)=some es[i].1:=by
 rw[zfO rfl (by rw[List.length_map];exact hi),List.getElem_map]
theorem xeC{B:Int}{s:PS}(h:PInv B s):zfZ zaB s.1 s.2.1 s.2.2.1 s.2.2.2.1 s.2.2.2.2=some (s.1,s.2.1,s.2.2.1,s.2.2.2.1,s.2.2.2.2,usE s):=by
 have hl:=h.uL
 unfold zfZ zqP zxL
 rw[ysT (by omega),zaA,mk0,zaA,zaA,zyW h.uR (by omega) fun p hp=>Nat.le_trans (ziE (h.us p.1 p.2 hp).2.1) (by decide),zaA]
 rw[ybX (es:=s.1) (tell:=fun p:L8×Us=>p.2) (by omega) (fun i hi acc ha=>?_) fun acc=>?_,zaA,zaA]
 ·rfl
 ·unfold zpC zhD
  simp only
  rw[zdU (by rw[List.length_map];omega),yrS hi,zaA,get_at h.uR hi,zaA,zlJ (by simp;omega),zaA,zrK (by omega)]
 ·unfold zpC
  simp only
  rw[zdG (by rw[List.length_map];omega)]
theorem ynI{B:Int}{s:PS}(h:PInv B s):zdI zaB s.1 s.2.1 s.2.2.1 s.2.2.2.1 s.2.2.2.2=some (s.1,s.2.1,s.2.2.1,s.2.2.2.1,s.2.2.2.2,grE s):=by
 have hl:=h.gL
 unfold zdI zqV zxY
 rw[ysT (by omega),zaA,mk0,zaA,zaA,zyW h.gR (by omega) fun p hp=>Nat.le_trans (ziE (h.gn p.1 p.2 hp).1) (by decide),zaA]
 rw[ybX (es:=s.2.1) (tell:=fun p:L8×Gr=>(p.1,p.2.1.1,p.2.1.2.1,p.2.1.2.2,p.2.2)) (by omega) (fun i hi acc ha=>?_) fun acc=>?_,zaA,zaA]
 ·rfl
 ·have hm:(s.2.1[i].1,s.2.1[i].2)∈s.2.1:=List.getElem_mem hi
  have e:∀l:List L8,l.length<=64->zhA zaB l=some l:=fun l hl=>by
   unfold zhA
   rw[zvY _ (by omega),zaA]
  unfold zpB
  simp only
  rw[zdU (by rw[List.length_map];omega),yrS hi,zaA,get_at h.gR hi]
  unfold zvD
  rw[e s.2.1[i].2.1.1 (h.lst_len hm (i:=0) (by decide)),zaA,e s.2.1[i].2.1.2.1 (h.lst_len hm (i:=1) (by decide)),zaA,e s.2.1[i].2.1.2.2 (h.lst_len hm (i:=2) (by decide)),zaA,zaA,zlJ (by simp;omega),zaA,zrK (by omega)]
 ·unfold zpB
  simp only
  rw[zdG (by rw[List.length_map];omega)]
theorem xbP{r:Ro}(h:ydQ r=true):r.2.length<=16:=by
 unfold ydQ ybY at h
 simp only[Bool.and_eq_true,decide_eq_true_eq]at h
 exact h.2.2
theorem xhK{c:Cl}(h:cliB c=true):c.2.2.1.length<=16/\c.2.2.2.1.length<=16:=by
 unfold cliB ybY at h
 simp only[Bool.and_eq_true,decide_eq_true_eq]at h
 exact⟨h.1.2.2,h.2.2⟩
theorem xgE{B:Int}{s:PS}(h:PInv B s):zfX zaB s.1 s.2.1 s.2.2.1 s.2.2.2.1 s.2.2.2.2=some (s.1,s.2.1,s.2.2.1,s.2.2.2.1,s.2.2.2.2,roE s):=by
 have hl:=h.rL
 unfold zfX zqI zyC
 rw[ysT (by omega),zaA,mk0,zaA,zaA,zyW h.rR (by omega) fun p hp=>by
  have h1:=h.ro p.1 p.2 hp
  have h2:=zaT h1.2
  rw[h1.1]at h2
  exact Nat.le_trans (ziE h2) (by decide),zaA]
 rw[ybX (es:=s.2.2.1) (tell:=fun p:L8×Ro=>p.2) (by omega) (fun i hi acc ha=>?_) fun acc=>?_,zaA,zaA]
 ·rfl
 ·have hm:(s.2.2.1[i].1,s.2.2.1[i].2)∈s.2.2.1:=List.getElem_mem hi
  have h1:=xbP (h.ro _ _ hm).2
  unfold zoX zhH
  simp only
  rw[zdU (by rw[List.length_map];omega),yrS hi,zaA,get_at h.rR hi,yqB (by omega),zaA,zaA,zlJ (by simp;omega),zaA,zrK (by omega)]
 ·unfold zoX
  simp only
  rw[zdG (by rw[List.length_map];omega)]
theorem xrN{c:Cl}(h:cliB c=true):nmB c.1=true:=by
 unfold cliB at h
 simp only[Bool.and_eq_true]at h
 exact h.1.1.1
theorem yuL{B:Int}{s:PS}(h:PInv B s):zeO zaB s.1 s.2.1 s.2.2.1 s.2.2.2.1 s.2.2.2.2=some (s.1,s.2.1,s.2.2.1,s.2.2.2.1,s.2.2.2.2,clE s):=by
 have hl:=h.cL
 unfold zeO zsK zyJ
 rw[ysT (by omega),zaA,mk0,zaA,zaA,zyW h.cR (by omega) fun p hp=>by
  have h1:=h.cl p.1 p.2 hp
  have h2:=xrN h1.2
  rw[h1.1]at h2
  exact Nat.le_trans (ziE h2) (by decide),zaA]
 rw[ybX (es:=s.2.2.2.1) (tell:=fun p:L8×Cl=>p.2) (by omega) (fun i hi acc ha=>?_) fun acc=>?_,zaA,zaA]
 ·rfl
 ·have hm:(s.2.2.2.1[i].1,s.2.2.2.1[i].2)∈s.2.2.2.1:=List.getElem_mem hi
  have h1:=xhK (h.cl _ _ hm).2
  unfold zqU zgH
  simp only
  rw[zdU (by rw[List.length_map];omega),yrS hi,zaA,get_at h.cR hi,yqJ (by omega) (by omega),zaA,zaA,zlJ (by simp;omega),zaA,zrK (by omega)]
 ·unfold zqU
  simp only
  rw[zdG (by rw[List.length_map];omega)]
theorem ynM:∀{l:List (L8×L8)},(l.Pairwise fun x y=>kltM x y=true)->ydK l=true
 |[],_=>rfl
 |[_],_=>rfl
 |x::y::l,h=>by
  have hc:=List.pairwise_cons.1 h
  unfold ydK
  rw[Bool.and_eq_true]
  exact⟨hc.1 y List.mem_cons_self,ynM hc.2⟩
theorem xoL{B:Int}{s:PS}(h:PInv B s):zgP zaB s.1 s.2.1 s.2.2.1 s.2.2.2.1 s.2.2.2.2=some (maE s,s):=by
 have hl:=h.mL
 unfold zgP zyF
 rw[zaA]
 have e:ybJ s.2.2.2.2=some (s.2.2.2.2.map (·.1),s.2.2.2.2):=by
  unfold ybJ
  rw[decide_eq_true (by omega),ynM (List.pairwise_map.2 h.mR)];rfl
 rw[e,zaA]
 rfl
inductive InG (G:GM) (u:L8):L8->Prop
 |dir {n:L8} {g:Gr}:(n,g)∈G->u∈lst 0 g->InG G u n
 |sub {n x:L8} {g:Gr}:(n,g)∈G->x∈lst 1 g->InG G u x->InG G u n
theorem InG.key{G:GM}{u n:L8}(h:InG G u n):mhas keqS G n=true:=by
 cases h with
 |dir h _=>exact kS.has_iff.2 ⟨_,h⟩
 |sub h _ _=>exact kS.has_iff.2 ⟨_,h⟩
end Go.Proofs.YtopanhneegpgcaaGreatDoor.Am
namespace Go.Proofs.YtopanhneegpgcaaGreatDoor
open Go Go.RowKit
section
open Go Go.RowKit Go.ChangeShapes Go.WideShapes Go.ChangeAt
section
variable {H:Type}{enc:TypeId×Value->H}{P:Program}{W W':World}
theorem yfN(hl:laidOutB P=true)(hx:Below W.heap.size W W'):∀{ts:List TypeId} {vs:LV} {ds:List (DataW H)} {ps:List MemPlace},ts.all (fun t=>P.readableRec t&&decide (t<P.types.size))=true ->
  DataW.TrodAll enc P W 0 (fun _=>true) true ts vs ds ps->(∀x∈ps,x.block<W.heap.size)->DataW.TrodAll enc P W' 0 (fun b=>decide (b<W.heap.size)) true ts vs ds ps
 |[],vs,ds,ps,_,h,_=>by
  obtain⟨rfl,rfl,rfl⟩:=trodAll_nil h
  exact trodAll_mk0
 |t::ts,vs,ds,ps,ha,h,hlt=>by
  obtain⟨v,vs',d,ds',p,q,rfl,rfl,rfl,h0,hr⟩:=trodAll_cons h
  simp only[List.all_cons,Bool.and_eq_true,decide_eq_true_eq]at ha
  exact trodAll_cons_mk (Below.trod hl ha.1.1 ha.1.2 h0 hx fun x hx=>hlt x (List.mem_append.2 (.inl hx)))
   (yfN hl hx ha.2 hr fun x hx=>hlt x (List.mem_append.2 (.inr hx)))
theorem trodAll_length:∀{ts:List TypeId} {vs:LV} {ds:List (DataW H)} {ps:List MemPlace} {w:World} {b:Nat} {sp:Nat->Bool} {hd:Bool},DataW.TrodAll enc P w b sp hd ts vs ds ps->vs.length=ts.length/\ds.length=ts.length
 |[],vs,ds,ps,_,_,_,_,h=>by
  obtain⟨rfl,rfl,rfl⟩:=trodAll_nil h
  exact⟨rfl,rfl⟩
 |t::ts,vs,ds,ps,_,_,_,_,h=>by
  obtain⟨v,vs',d,ds',p,q,rfl,rfl,rfl,h0,hr⟩:=trodAll_cons h
  have:=trodAll_length hr
  simp[this.1,this.2]
theorem xhV{f:Func}{s:ChangeSpec}{args:Array Value}{ds gs:List (DataW H)}{before:List MemPlace}{B:TypeId}{n:Nat}(hl:laidOutB P=true)(hv:s.vars=[])
  (hp:f.params.toList.all (fun t=>P.readableRec t&&decide (t<P.types.size))=true) (hn:f.params.toList.length=n) (hB:P.underlying B=some .bool) (hr:f.resultTypes = #[B])
  (hfn:∀ds:List (DataW H),ds.length=n->(s.fn H (ds++[])).results=[.lit (.bool true)]/\(s.fn H (ds++[])).args=ds/\(s.fn H (ds++[])).vars=[])
  (hW:DataW.Whole enc P f.params.toList s.vars false W args.toList ds gs before) (hx:Ext W W'):s.post enc P f false true false false W args (.bool true) W':=by
 have hW':=hW
 obtain⟨p,q,hA,hV,rfl,_,_⟩:=hW
 rw[hv]at hV
 obtain⟨rfl,rfl⟩:=trodVars_none hV
 have hA:DataW.TrodAll enc P W 0 (fun _=>true) true f.params.toList args.toList ds p:=hA
 have hlen:=trodAll_length hA
 obtain⟨f1,f2,f3⟩:=hfn ds (hlen.2.trans hn)
 refine⟨ds,[],p++[],[],p,[],hW',?_,?_,?_,Below.frame hx _,fun h=>by cases h⟩
 ·rw[f1,hr]
  exact trodAll_mk1 (shut_bool hB _)
 ·rw[f2]
  exact yfN hl hx hp hA fun x hxp=>by simpa using hW'.lt x (by simp[hxp])
 ·rw[f3,hv];exact rfl
variable {b0:Nat}{T E:TypeId}{v:Value}
theorem xhR{fits:TypeId->Bool}:∀{d:Nat} {e:TypeId} {count off n:Nat},rowAt P fits d e count off n=true->off<=count*P.cellsOf e
 |0,_,_,_,_,h=>by simp[rowAt]at h
 |d+1,e,count,off,n,h=>by
  unfold rowAt at h
  by_cases hs:P.cellsOf e=0
  ·simp[hs]at h
  ·have hd:=Nat.div_add_mod off (P.cellsOf e)
   have hm:=Nat.mod_lt off (Nat.pos_of_ne_zero hs)
   simp only[hs,if_false,Bool.or_eq_true,Bool.and_eq_true,decide_eq_true_eq,beq_iff_eq]at h
   rcases h with⟨⟨h1,h2⟩,_⟩|⟨h1,_⟩
   ·have h3:P.cellsOf e*(off/P.cellsOf e)<=P.cellsOf e*count:=Nat.mul_le_mul_left _ (by omega)
    rw[Nat.mul_comm count];omega
   ·have h3:P.cellsOf e*(off/P.cellsOf e+1)<=P.cellsOf e*count:=Nat.mul_le_mul_left _ (by omega)
    rw[Nat.mul_add,Nat.mul_one]at h3
    rw[Nat.mul_comm count];omega
theorem yoA:∀{d:Nat} {e:TypeId} {count off:Nat} {u:TypeId} {n:Nat},liesAt P d e count off u n=true->off<=count*P.cellsOf e
 |0,_,_,_,_,_,h=>by simp[liesAt]at h
 |d+1,e,count,off,u,n,h=>by
  unfold liesAt at h
  rw[Bool.or_eq_true]at h
  rcases h with h|h
  ·exact xhR h
  ·split at h
   ·exact yoA h
   ·cases h
theorem xeP{a:Addr}{len cap:Nat}(hu:P.underlying T=some (.slice E))(h:Value.okWide P W .any b0 T (.slice (some a) len cap)):
  a.spot=none/\∃cs R fz,W.heap[a.block]? = some (.cells cs R fz)/\a.off<=cs.size:=by
 simp only[Value.okWide,Cell.okWide,Cell.ok,hu]at h
 obtain⟨_,_,_,h2,row,cells,h3,h4⟩:=h
 refine⟨h2,?_⟩
 unfold World.shape? at h3
 split at h3
 ·rename_i c elem fz hb
  simp only[Option.some.injEq,Prod.mk.injEq]at h3
  obtain⟨rfl,rfl⟩:=h3
  have h5:=yoA h4
  have h6:=Nat.div_mul_le_self c.size (P.cellsOf elem)
  exact⟨c,_,fz,hb,by omega⟩
 ·cases h3
theorem ok_slice(hu:P.underlying T=some (.slice E))(h:Value.okWide P W .any b0 T v):v = .slice none 0 0∨∃a len cap,v = .slice (some a) len cap:=by
 simp only[Value.okWide,Cell.okWide,Cell.ok,hu]at h
 cases v with
 |slice a len cap=>
  cases a with
  |none=>
   left
   cases len with
   |zero=>cases cap with
    |zero=>rfl
    |succ n=>simp at h
   |succ n=>simp at h
  |some a=>exact .inr ⟨a,len,cap,rfl⟩
 |_=>simp at h
theorem ysC{l r:List (DataW H)}:Rows.uptoBulkAll (l++r)=Rows.uptoBulkAll l+Rows.uptoBulkAll r:=by
 induction l with
 |nil=>simp[Rows.uptoBulkAll]
 |cons x l ih=>simp only[List.cons_append,Rows.uptoBulkAll,ih];omega
end
end
end Go.Proofs.YtopanhneegpgcaaGreatDoor
namespace Go.Proofs.YtopanhneegpgcaaGreatDoor.Am
open Go Go.RowKit Go.ChangeShapes Go.WideShapes Go.ChangeAt
def dsz:(t:Ty)->den t->Nat
 |.s,x=>List.length x+1
 |.pr a c,x=>dsz a x.1+dsz c x.2
 |.un,_=>0
 |.sl e,x=>(List.map (dsz e) x).sum+1
 |_,_=>1
def fOk(q:TypeId->Ty->Bool)(c:TypeId->Nat):List Field->Nat->Ty->Bool
 |[],_,t=>match t with
  |.un=>true
  |_=>false
 |[f],off,t=>(q f.type t&&(Nat.beq f.offset off&&Nat.beq (c f.type) (tsz t)))||(match t with
  |.pr a .un=>q f.type a&&(Nat.beq f.offset off&&Nat.beq (c f.type) (tsz a))
  |_=>false)
 |f::g::fs,off,t=>match t with
  |.pr a r=>(q f.type a&&(Nat.beq f.offset off&&Nat.beq (c f.type) (tsz a)))&&fOk q c (g::fs) (off+tsz a) r
  |_=>false
def tyOk(P:Program):Nat->TypeId->Ty->Bool
 |0,_,_=>false
 |n+1,T,t=>match P.underlying T,t with
  |some (.int k),.i k'=>(ikEq k k').isSome
  |some .bool,.b=>true
  |some .string,.s=>true
  |some (.slice E),.sl e=>tyOk P n E e&&(Nat.beq (P.cellsOf E) (tsz e)&&Nat.blt 0 (tsz e))
  |some (.struct fs),t=>(Nat.beq (P.cellsOf T) (tsz t) && !(one t))&&fOk (tyOk P n) P.cellsOf fs.toList 0 t
  |_,_=>false
section
variable {H:Type}{enc:TypeId×Value->H}{P:Program}{W:World}{sp:Nat->Bool}{S:Mem}
theorem xqB:∀{k:IntKind} {n:Int},(Lit.int k n).wf=true->toI k (ofI k n)=n:=fun {k n} h=>by
 rw[xbG]
 cases k<;>simp[Lit.wf,IntKind.min,IntKind.max,IntKind.signed,IntKind.bits]at h<;>simp[IntKind.wrap,IntKind.signed,IntKind.bits]<;>omega
theorem yoL{a c:Ty}{cs:LV}{x:den a}{y:den c}(hx:rep a S (cs.take (tsz a)) x)(hy:rep c S (cs.drop (tsz a)) y):rep (.pr a c) S cs (x,y):=
 ⟨_,_,(List.take_append_drop (tsz a) cs).symm,hx,hy⟩
theorem xjD:rep .un S ([]:LV) ():=rfl
theorem ypD{q:TypeId->Ty->Bool}{fuel:Nat}(hq:∀(T:TypeId) (t:Ty),q T t=true->∀cs d ps,DataW.trod enc P W 0 sp true fuel T cs=some (d,ps)->∃x:den t,rep t S cs x/\dsz t x<=Rows.uptoBulk d){cs:LV}:
  ∀(fs:List Field) (off:Nat) (t:Ty) (xs:List (DataW H×List MemPlace)),fOk q P.cellsOf fs off t=true->cs.length=off+tsz t ->
   A2 (fun(f:Field) y=>DataW.trod enc P W 0 sp true fuel f.type ((cs.drop f.offset).take (P.cellsOf f.type))=some y) fs xs ->
   ∃x:den t,rep t S (cs.drop off) x/\dsz t x<=Rows.uptoBulkAll (xs.map (·.1))
 |[],off,t,xs,h,hl,hA=>by
  cases t<;>simp only[fOk]at h<;>try (cases h;done)
  cases hA
  refine⟨(),?_,Nat.zero_le _⟩
  rw[List.drop_eq_nil_of_le (by rw[hl];exact Nat.le_refl _)]
  exact xjD
 |[f],off,t,xs,h,hl,hA=>by
  cases hA with
  | @cons _ y _ _ h1 h2=>
   cases h2
   simp only[fOk,Bool.or_eq_true]at h
   rcases h with h|h
   ·rw[Bool.and_eq_true,Bool.and_eq_true]at h
    obtain⟨h0,h2,h3⟩:=h
    have h2:=Nat.eq_of_beq_eq_true h2
    have h3:=Nat.eq_of_beq_eq_true h3
    obtain⟨x,hx,hd⟩:=hq _ _ h0 _ _ _ h1
    refine⟨x,?_,by simp only[List.map_cons,List.map_nil,Rows.uptoBulkAll];omega⟩
    rw[h2,h3,List.take_of_length_le (by rw[List.length_drop];omega)]at hx
    exact hx
   ·cases t with
    |pr a c=>
     cases c with
     |un=>
      rw[Bool.and_eq_true,Bool.and_eq_true]at h
      obtain⟨h0,h2,h3⟩:=h
      have h2:=Nat.eq_of_beq_eq_true h2
      have h3:=Nat.eq_of_beq_eq_true h3
      obtain⟨x,hx,hd⟩:=hq _ _ h0 _ _ _ h1
      rw[h2,h3]at hx
      have hl:cs.length=off+tsz a:=hl
      refine⟨(x,()),yoL hx ?_,by simp only[List.map_cons,List.map_nil,Rows.uptoBulkAll];show dsz a x+0<=_;omega⟩
      rw[List.drop_eq_nil_of_le (by rw[List.length_drop];omega)]
      exact xjD
     |_=>simp at h
    |_=>simp at h
 |f::g::fs,off,t,xs,h,hl,hA=>by
  cases t with
  |pr a r=>
   simp only[fOk]at h
   rw[Bool.and_eq_true,Bool.and_eq_true,Bool.and_eq_true]at h
   obtain⟨⟨h1,h2,h3⟩,h4⟩:=h
   have h2:=Nat.eq_of_beq_eq_true h2
   have h3:=Nat.eq_of_beq_eq_true h3
   have hl:cs.length=off+(tsz a+tsz r):=hl
   cases hA with
   | @cons _ y _ ys g1 g2=>
    obtain⟨x,hx,hd⟩:=hq _ _ h1 _ _ _ g1
    obtain⟨z,hz,he⟩:=ypD hq (g::fs) (off+tsz a) r ys h4 (by omega) g2
    rw[h2,h3]at hx
    refine⟨(x,z),yoL hx (by rw[List.drop_drop];exact hz),?_⟩
    simp only[List.map_cons,Rows.uptoBulkAll]
    show dsz a x+dsz r z<=_
    omega
  |_=>simp[fOk]at h
theorem xjM{α β:Type}{R:α->β->Prop}:∀{l:List α} {m:List β},l.length=m.length->(∀(i:Nat) (a:α) (b:β),l[i]? = some a->m[i]? = some b->R a b)->A2 R l m
 |[],[],_,_=>.nil
 |[],_::_,h,_=>by cases h
 |_::_,[],h,_=>by cases h
 |a::l,b::m,h,hR=>.cons (hR 0 a b rfl rfl) (xjM (by simpa using h) fun i a b ha hb=>hR (i+1) a b (by simpa using ha) (by simpa using hb))
theorem xaR{e:Ty}:∀{xs:List (den e)} {cs ds:LV} {x:den e},@RL (den e) (rpD e) S cs xs->rep e S ds x->@RL (den e) (rpD e) S (cs++ds) (xs++[x])
 |[],cs,ds,x,h,hx=>by
  have h:cs=[]:=h
  subst h
  exact⟨ds,[],by simp,hx,rfl⟩
 |y::xs,cs,ds,x,h,hx=>by
  obtain⟨c,d,rfl,h1,h2⟩:=h
  exact⟨c,d++ds,by simp,h1,xaR h2 hx⟩
theorem xvD{T E:TypeId}{e:Ty}{fuel:Nat}(hu:P.underlying T=some (.slice E))(hc:P.cellsOf E=tsz e)(hz:0<tsz e)(hq:∀(m:Nat) (cs:LV) (d:DataW H) (ps:List MemPlace),DataW.trod enc P W 0 (fun _=>true) true m E cs=some (d,ps)->∃x:den e,rep e (zuR W) cs x/\dsz e x<=Rows.uptoBulk d){cs:LV}{d:DataW H}{ps:List MemPlace}(hd:DataW.trod enc P W 0 (fun _=>true) true fuel T cs=some (d,ps)):
  ∃xs:List (den e),rep (.sl e) (zuR W) cs xs/\dsz (.sl e) xs<=Rows.uptoBulk d:=by
 rcases DataW.trod_slice hu hd with⟨rfl,h2⟩|⟨a,len,cap,elems,rest,m,rfl,rfl,h2,_,hlc,_,hel,hget,hrest,_⟩
 ·cases h2
  exact⟨[],⟨_,rfl,[],.inl ⟨⟨none,rfl⟩,rfl,rfl⟩,rfl⟩,Nat.le_refl _⟩
 ·cases h2
  by_cases hcap:cap=0
  ·subst hcap
   obtain rfl:len=0:=by omega
   refine⟨[],⟨_,rfl,[],.inl ⟨⟨some a,rfl⟩,rfl,rfl⟩,rfl⟩,?_⟩
   show 0+1<=_
   simp only[Rows.uptoBulk]
   omega
  have h0:∃us,W.cells? 0 a (P.cellsOf E)=some us:=by
   by_cases hl0:len=0
   ·subst hl0
    obtain⟨g1,g2⟩:=hrest rfl
    have g3:=g2 0 (by omega)
    rw[List.getElem?_eq_getElem (by omega:0<rest.length)]at g3
    obtain⟨us,hus,_⟩:=Option.bind_eq_some_iff.1 g3
    rw[show a.add ((0+0)*P.cellsOf E)=a by simp[Addr.add]]at hus
    exact⟨us,hus⟩
   ·have g3:=hget 0 (by omega)
    rw[List.getElem?_eq_getElem (by omega:0<elems.length)]at g3
    obtain⟨us,hus,_⟩:=Option.bind_eq_some_iff.1 g3
    rw[show a.add (0*P.cellsOf E)=a by simp[Addr.add]]at hus
    exact⟨us,hus⟩
  obtain⟨us,hus⟩:=h0
  obtain⟨_,hul,huc⟩:=World.cells?_some hus
  have hc0:=huc 0 (by omega)
  rw[show a.add 0=a by simp[Addr.add],List.getElem?_eq_getElem (by omega:0<us.length)]at hc0
  obtain⟨blk,off,spot⟩:=a
  obtain⟨cs,R,fz,hb,hsp,ho⟩:∃cs R fz,W.heap[blk]? = some (.cells cs R fz)/\spot=none/\off<=cs.size:=by
   unfold World.cell? at hc0
   dsimp only at hc0
   split at hc0
   ·rename_i c R fz hb
    cases spot with
    |some s=>simp at hc0
    |none=>
     rw[if_neg (by simp)]at hc0
     have:=(Array.getElem?_eq_some_iff.1 hc0).1
     exact⟨c,R,fz,hb,rfl,Nat.le_of_lt this⟩
   ·cases hc0
  subst hsp
  have ad:∀j,(⟨blk,off,none⟩:Addr).add j=⟨blk,off+j,none⟩:=fun j=>by simp[Addr.add]
  have each:∀i,i<len->∃y x,elems[i]? = some y/\rep e (zuR W) (piece cs.toList (off+i*tsz e) (tsz e)) x/\dsz e x<=Rows.uptoBulk y.1/\off+(i+1)*tsz e<=cs.toList.length:=fun i hi=>by
   have hg:=hget i hi
   obtain⟨y,hy⟩:∃y,elems[i]? = some y:=⟨_,List.getElem?_eq_getElem (by omega)⟩
   rw[hy]at hg
   obtain⟨us,hus,hg⟩:=Option.bind_eq_some_iff.1 hg
   obtain⟨_,hul,huc⟩:=World.cells?_some hus
   obtain⟨x,hx,hdx⟩:=hq m us y.1 y.2 hg
   rw[hc,ad]at huc
   rw[hc]at hul
   have hcell:∀j,j<tsz e->cs.toList[off+i*tsz e+j]? = us[j]?:=fun j hj=>by
    have:=huc j hj
    rw[show(⟨blk,off+i*tsz e,none⟩:Addr).add j=⟨blk,off+i*tsz e+j,none⟩ by simp[Addr.add]]at this
    simp only[World.cell?,hb,Option.isSome_none,if_neg (show ¬(false=true) by decide)]at this
    simpa using this
   have hlen:off+(i+1)*tsz e<=cs.toList.length:=by
    have h1:=hcell (tsz e-1) (by omega)
    rw[List.getElem?_eq_getElem (by omega:tsz e-1<us.length)]at h1
    have:=(List.getElem?_eq_some_iff.1 h1).1
    rw[Nat.add_mul];omega
   refine⟨y,x,hy,?_,hdx,hlen⟩
   have:piece cs.toList (off+i*tsz e) (tsz e)=us:=by
    apply List.ext_getElem?
    intro j
    rw[zaS,List.getElem?_take]
    by_cases hj:j<tsz e
    ·rw[if_pos hj,List.getElem?_drop];exact hcell j hj
    ·rw[if_neg hj,List.getElem?_eq_none (by omega)]
   rw[this];exact hx
  have key:∀k,k<=len->∃xs:List (den e),xs.length=k/\@RL (den e) (rpD e) (zuR W) (piece cs.toList off (k*tsz e)) xs/\(List.map (dsz e) xs).sum<=Rows.uptoBulkAll ((elems.take k).map (·.1)):=by
   intro k
   induction k with
   |zero=>intro _;exact⟨[],rfl,by simp[piece,RL],Nat.zero_le _⟩
   |succ k ih=>
    intro hk
    obtain⟨xs,h1,h2,h3⟩:=ih (by omega)
    obtain⟨y,x,g1,g2,g3,_⟩:=each k (by omega)
    refine⟨xs++[x],by simp[h1],?_,?_⟩
    ·have e2:piece cs.toList off ((k+1)*tsz e)=piece cs.toList off (k*tsz e)++piece cs.toList (off+k*tsz e) (tsz e):=by
      rw[zaS,zaS,zaS,Nat.add_mul,Nat.one_mul,List.take_add,List.drop_drop]
     rw[e2]
     exact xaR h2 g2
    ·rw[List.take_add_one,g1]
     simp only[Option.toList_some,List.map_append,List.map_cons,List.map_nil,List.sum_append,List.sum_cons,List.sum_nil,ysC,Rows.uptoBulkAll]
     omega
  obtain⟨xs,h1,h2,h3⟩:=key len (Nat.le_refl _)
  have hfit:off+len*tsz e<=cs.toList.length:=by
   rcases Nat.eq_zero_or_pos len with h0|h0
   ·subst h0;rw[Array.length_toList];omega
   ·obtain⟨_,_,_,_,_,h4⟩:=each (len-1) (by omega)
    rwa[Nat.sub_add_cancel h0]at h4
  refine⟨xs,⟨_,rfl,piece cs.toList off (len*tsz e),?_,h2⟩,?_⟩
  ·right
   refine⟨blk,off,cap,cs.toList,R,fz,?_,by rw[h1];exact hlc,by simpa[zuR]using hb,?_,?_⟩
   ·rw[h1]
   ·rw[h1];show _+_*(rpD e).sz<=_;rw[zkE];exact hfit
   ·rw[h1];show piece _ _ (_*(rpD e).sz)=_;rw[zkE]
  ·rw[List.take_of_length_le (by omega)]at h3
   show(List.map (dsz e) xs).sum+1<=_
   simp only[Rows.uptoBulk]
   omega
theorem yjY:∀(n:Nat) (T:TypeId) (t:Ty),tyOk P n T t=true->∀(fuel:Nat) (cs:LV) (d:DataW H) (ps:List MemPlace),DataW.trod enc P W 0 (fun _=>true) true fuel T cs=some (d,ps)->∃x:den t,rep t (zuR W) cs x/\dsz t x<=Rows.uptoBulk d
 |0,_,_,h,_,_,_,_,_=>by cases h
 |n+1,T,t,h,fuel,cs,d,ps,hd=>by
  unfold tyOk at h
  split at h
  ·rename_i k k' hu
   obtain⟨hk,_⟩:=Option.isSome_iff_exists.1 h
   obtain rfl:=hk.down
   obtain⟨m,rfl,he,hw⟩:=DataW.trod_int hu hd
   cases he
   exact⟨ofI _ m,(by show [Value.int _ m]=[.int _ (toI _ (ofI _ m))];rw[xqB hw]),Nat.le_refl 1⟩
  ·rename_i hu
   obtain⟨b,rfl,he⟩:=DataW.trod_bool hu hd
   cases he
   exact⟨b,rfl,Nat.le_refl 1⟩
  ·rename_i hu
   obtain⟨s,rfl,he,_⟩:=DataW.trod_string hu hd
   cases he
   exact⟨s.data.toList,(by show [Value.string s]=[str s.data.toList];simp[str]),Nat.le_refl _⟩
  ·rename_i E e hu
   rw[Bool.and_eq_true,Bool.and_eq_true]at h
   obtain⟨h1,h2,h3⟩:=h
   exact xvD hu (Nat.eq_of_beq_eq_true h2) (by rw[zmI]at h3;simpa using h3) (fun m cs d ps hd=>yjY n E e h1 m cs d ps hd) hd
  ·rename_i fs hu
   rw[Bool.and_eq_true,Bool.and_eq_true]at h
   obtain⟨⟨h1,_⟩,h2⟩:=h
   have h1:=Nat.eq_of_beq_eq_true h1
   obtain⟨xs,fuel,rfl,he,hl,hxl,hm⟩:=DataW.trod_struct hu hd
   cases he
   obtain⟨x,hx,hb⟩:=ypD (S:=zuR W) (fuel:=fuel) (fun T' t' hq cs d ps=>yjY n T' t' hq fuel cs d ps) fs.toList 0 _ xs h2 (by rw[hl,h1];omega) (xjM (by simp[hxl]) fun i f y hf hy=>(hm i f (by simpa using hf)).trans hy)
   exact⟨x,by simpa using hx,by simp only[Rows.uptoBulk];omega⟩
  ·cases h
variable {b0:Nat}{T E:TypeId}{v:Value}
theorem xgI{n:Nat}{e:Ty}(hu:P.underlying T=some (.slice E))(he:tyOk P n E e=true)(hc:P.cellsOf E=tsz e)(hz:0<tsz e)(h:Value.okWide P W .any b0 T v){d:DataW H}{ps:List MemPlace}(hd:DataW.Trod enc P W 0 (fun _=>true) true T v d ps):
  ∃xs:List (den e),@RdS (den e) (rpD e) (zuR W) v xs/\dsz (.sl e) xs<=Rows.uptoBulk d:=by
 obtain⟨fuel,hf⟩:=hd
 have hv:=ok_slice hu h
 have hcells:v.cells.toList=[v]:=by
  rcases hv with rfl|⟨a,len,cap,rfl⟩<;>rfl
 rw[hcells]at hf
 rcases DataW.trod_slice hu hf with⟨h1,h2⟩|⟨a,len,cap,elems,rest,m,rfl,h1,h2,_,hlc,_,hel,hget,_,_⟩
 ·simp only[List.cons.injEq,and_true]at h1
  subst h1
  cases h2
  exact⟨[],⟨[],.inl ⟨⟨none,rfl⟩,rfl,rfl⟩,rfl⟩,Nat.le_refl _⟩
 ·simp only[List.cons.injEq,and_true]at h1
  subst h1
  cases h2
  obtain⟨hsp,cs,R,fz,hb,ho⟩:=xeP hu h
  obtain⟨blk,off,spot⟩:=a
  dsimp only at hsp hb ho
  subst hsp
  have ad:∀j,(⟨blk,off,none⟩:Addr).add j=⟨blk,off+j,none⟩:=fun j=>by simp[Addr.add]
  have each:∀i,i<len->∃y x,elems[i]? = some y/\rep e (zuR W) (piece cs.toList (off+i*tsz e) (tsz e)) x/\dsz e x<=Rows.uptoBulk y.1/\off+(i+1)*tsz e<=cs.toList.length:=fun i hi=>by
   have hg:=hget i hi
   obtain⟨y,hy⟩:∃y,elems[i]? = some y:=⟨_,List.getElem?_eq_getElem (by omega)⟩
   rw[hy]at hg
   obtain⟨us,hus,hg⟩:=Option.bind_eq_some_iff.1 hg
   obtain⟨_,hul,huc⟩:=World.cells?_some hus
   obtain⟨x,hx,hdx⟩:=yjY n E e he m us y.1 y.2 hg
   rw[hc,ad]at huc
   rw[hc]at hul
   have hcell:∀j,j<tsz e->cs.toList[off+i*tsz e+j]? = us[j]?:=fun j hj=>by
    have:=huc j hj
    rw[show(⟨blk,off+i*tsz e,none⟩:Addr).add j=⟨blk,off+i*tsz e+j,none⟩ by simp[Addr.add]]at this
    simp only[World.cell?,hb,Option.isSome_none,if_neg (show ¬(false=true) by decide)]at this
    simpa using this
   have hlen:off+(i+1)*tsz e<=cs.toList.length:=by
    have h1:=hcell (tsz e-1) (by omega)
    rw[List.getElem?_eq_getElem (by omega:tsz e-1<us.length)]at h1
    have:=(List.getElem?_eq_some_iff.1 h1).1
    rw[Nat.add_mul];omega
   refine⟨y,x,hy,?_,hdx,hlen⟩
   have:piece cs.toList (off+i*tsz e) (tsz e)=us:=by
    apply List.ext_getElem?
    intro j
    rw[zaS,List.getElem?_take]
    by_cases hj:j<tsz e
    ·rw[if_pos hj,List.getElem?_drop];exact hcell j hj
    ·rw[if_neg hj,List.getElem?_eq_none (by omega)]
   rw[this];exact hx
  have key:∀k,k<=len->∃xs:List (den e),xs.length=k/\@RL (den e) (rpD e) (zuR W) (piece cs.toList off (k*tsz e)) xs/\(List.map (dsz e) xs).sum<=Rows.uptoBulkAll ((elems.take k).map (·.1)):=by
   intro k
   induction k with
   |zero=>intro _;exact⟨[],rfl,by simp[piece,RL],Nat.zero_le _⟩
   |succ k ih=>
    intro hk
    obtain⟨xs,h1,h2,h3⟩:=ih (by omega)
    obtain⟨y,x,g1,g2,g3,_⟩:=each k (by omega)
    refine⟨xs++[x],by simp[h1],?_,?_⟩
    ·have e2:piece cs.toList off ((k+1)*tsz e)=piece cs.toList off (k*tsz e)++piece cs.toList (off+k*tsz e) (tsz e):=by
      rw[zaS,zaS,zaS,Nat.add_mul,Nat.one_mul,List.take_add,List.drop_drop]
     rw[e2]
     exact xaR h2 g2
    ·rw[List.take_add_one,g1]
     simp only[Option.toList_some,List.map_append,List.map_cons,List.map_nil,List.sum_append,List.sum_cons,List.sum_nil,ysC,Rows.uptoBulkAll]
     omega
  obtain⟨xs,h1,h2,h3⟩:=key len (Nat.le_refl _)
  have hfit:off+len*tsz e<=cs.toList.length:=by
   rcases Nat.eq_zero_or_pos len with h0|h0
   ·subst h0;rw[Array.length_toList];omega
   ·obtain⟨_,_,_,_,_,h4⟩:=each (len-1) (by omega)
    rwa[Nat.sub_add_cancel h0]at h4
  refine⟨xs,⟨piece cs.toList off (len*tsz e),?_,h2⟩,?_⟩
  ·right
   refine⟨blk,off,cap,cs.toList,R,fz,?_,by rw[h1];exact hlc,by simpa[zuR]using hb,?_,?_⟩
   ·rw[h1]
   ·rw[h1];show _+_*(rpD e).sz<=_;rw[zkE];exact hfit
   ·rw[h1];show piece _ _ (_*(rpD e).sz)=_;rw[zkE]
  ·rw[List.take_of_length_le (by omega)]at h3
   show(List.map (dsz e) xs).sum+1<=_
   simp only[Rows.uptoBulk]
   omega
def xqT(P:Program)(T:TypeId)(t:Ty):Bool:=match P.underlying T,t with
 |some (.slice E),.sl e=>tyOk P 8 E e&&(Nat.beq (P.cellsOf E) (tsz e)&&Nat.blt 0 (tsz e))
 |_,t=>tyOk P 8 T t
theorem xvG{t:Ty}(ha:xqT P T t=true)(h:Value.okWide P W .any b0 T v){d:DataW H}{ps:List MemPlace}(hd:DataW.Trod enc P W 0 (fun _=>true) true T v d ps):
  ∃x:den t,rep1 t (zuR W) v x/\dsz t x<=Rows.uptoBulk d:=by
 unfold xqT at ha
 split at ha
 ·rename_i E e hu
  rw[Bool.and_eq_true,Bool.and_eq_true]at ha
  obtain⟨h1,h2,h3⟩:=ha
  obtain⟨xs,g1,g2⟩:=xgI hu h1 (Nat.eq_of_beq_eq_true h2) (by rw[zmI]at h3;simpa using h3) h hd
  exact⟨xs,⟨v,rfl,g1⟩,g2⟩
 ·obtain⟨fuel,hf⟩:=hd
  obtain⟨x,hx,hb⟩:=yjY 8 T _ ha fuel _ _ _ hf
  refine⟨x,?_,hb⟩
  unfold rep1
  unfold tyOk at ha
  split at ha
  ·rename_i hu
   have hv:v.cells.toList=[v]:=by
    simp only[Value.okWide,Cell.okWide,Cell.ok]at h
    cases v<;>simp_all<;>rfl
   rw[hv]at hx
   rw[if_pos (show one (.i _)=true from rfl)];exact hx
  ·rename_i hu
   have hv:v.cells.toList=[v]:=by
    simp only[Value.okWide,Cell.okWide,Cell.ok]at h
    cases v<;>simp_all<;>rfl
   rw[hv]at hx
   rw[if_pos (show one .b=true from rfl)];exact hx
  ·rename_i hu
   have hv:v.cells.toList=[v]:=by
    simp only[Value.okWide,Cell.okWide,Cell.ok]at h
    cases v<;>simp_all<;>rfl
   rw[hv]at hx
   rw[if_pos (show one .s=true from rfl)];exact hx
  ·rename_i hu hno
   exact(hno _ _ hu rfl).elim
  ·rename_i fs hu _
   rw[Bool.and_eq_true,Bool.and_eq_true]at ha
   simp only[Value.okWide,hu]at h
   obtain⟨cs,rfl,_,_⟩:=h
   rw[if_neg (by simpa using ha.1.2)]
   exact⟨cs.toList,by simp,hx⟩
  ·cases ha
def posT:Ty->Bool
 |.un=>false
 |.pr a c=>posT a||posT c
 |_=>true
theorem yqE:∀{e:Ty},posT e=true->∀x:den e,1<=dsz e x
 |.i _,_,_=>Nat.le_refl 1
 |.b,_,_=>Nat.le_refl 1
 |.s,_,_=>Nat.le_add_left 1 _
 |.er,_,_=>Nat.le_refl 1
 |.sl _,_,_=>Nat.le_add_left 1 _
 |.mp _ _,_,_=>Nat.le_refl 1
 |.pr a c,h,x=>by
  show 1<=dsz a x.1+dsz c x.2
  have h:(posT a||posT c)=true:=h
  rw[Bool.or_eq_true]at h
  rcases h with h|h
  ·have:=yqE h x.1;omega
  ·have:=yqE h x.2;omega
theorem ygY{e:Ty}(he:posT e=true):∀xs:List (den e),xs.length+1<=dsz (.sl e) xs
 |[]=>Nat.le_refl 1
 |x::xs=>by
  have h1:=yqE he x
  have h2:xs.length+1<=(List.map (dsz e) xs).sum+1:=ygY he xs
  show(x::xs).length+1<=(List.map (dsz e) (x::xs)).sum+1
  simp only[List.length_cons,List.map_cons,List.sum_cons]
  omega
theorem xtQ{t:Ty}{S:Mem}{E:List EI}{v:Value}{x:den t}(h:rep1 t S v x):VR S E (svOf t x) v:=yxL (l:=[t]) h
end
end Go.Proofs.YtopanhneegpgcaaGreatDoor.Am
namespace Go.Proofs.YtopanhneegpgcaaGreatDoor.Am
open Go Go.RowKit
theorem xjC{e:Ty}{x:den e}:∀{xs:List (den e)},x∈xs->dsz e x<=dsz (.sl e) xs
 |y::ys,h=>by
  show _<=(List.map (dsz e) (y::ys)).sum+1
  simp only[List.map_cons,List.sum_cons]
  rcases List.mem_cons.1 h with rfl|h
  ·omega
  ·have:dsz e x<=(List.map (dsz e) ys).sum+1:=xjC h
   omega
abbrev opT:Ty:=.pr (.i .i64) (.pr (.i .i64) (.pr .s (.pr .s (.pr .b (.pr (.pr .s (.sl .s)) (.pr .s (.pr .s (.pr (.sl .s) (.pr (.sl .s) (.pr .b (.pr .b (.pr .b .b))))))))))))
theorem xlJ{o:Opr}{k:Nat}(h:dsz opT o<=k)(hk:k<=1048576):Opok o:=by
 have e:dsz opT o=1+(1+(o.2.2.1.length+1+(o.2.2.2.1.length+1+(1+((o.2.2.2.2.2.1.1.length+1+dsz (.sl .s) o.2.2.2.2.2.1.2)+(o.2.2.2.2.2.2.1.length+1+(o.2.2.2.2.2.2.2.1.length+1+(dsz (.sl .s) o.2.2.2.2.2.2.2.2.1+(dsz (.sl .s) o.2.2.2.2.2.2.2.2.2.1+(1+(1+(1+1)))))))))))):=rfl
 have h1:o.2.2.2.2.2.1.2.length+1<=dsz (.sl .s) o.2.2.2.2.2.1.2:=ygY (e:=.s) rfl _
 have h2:o.2.2.2.2.2.2.2.2.1.length+1<=dsz (.sl .s) o.2.2.2.2.2.2.2.2.1:=ygY (e:=.s) rfl _
 have h3:o.2.2.2.2.2.2.2.2.2.1.length+1<=dsz (.sl .s) o.2.2.2.2.2.2.2.2.2.1:=ygY (e:=.s) rfl _
 rw[e]at h
 exact⟨by omega,by omega,by omega,by omega⟩
theorem xjZ{v:List Opr}{k:Nat}(h:dsz (.sl opT) v<=k)(hk:k<=1048576):(∀o∈v,Opok o)/\v.length<=1048576:=by
 have h1:v.length+1<=dsz (.sl opT) v:=ygY (e:=opT) rfl v
 exact⟨fun o ho=>xlJ (Nat.le_trans (xjC (e:=opT) ho) h) hk,by omega⟩
abbrev s0:PS:=(([]:UM),([]:GM),([]:RM),([]:CM),([]:MM))
noncomputable def yzR(v:List Opr)(s:PS):PS:=v.foldl (fun s o=>(yqT o s).2) s
theorem ytE:∀(v:List Opr) (B:Int) (s:PS),1<=B->PInv B s->PInv (B+v.length) (yzR v s)
 |[],B,s,_,h=>by
  show PInv (B+((0:Nat):Int)) s
  rw[show B+((0:Nat):Int)=B by omega];exact h
 |o::v,B,s,hB,h=>by
  have:=ytE v (B+1) (yqT o s).2 (by omega) (ylH hB h o)
  rw[show B+1+(v.length:Int)=B+((o::v).length:Int) by rw[List.length_cons];omega]at this
  exact this
theorem xiZ:ziY zaB=some s0:=rfl
theorem xdI{v:List Opr}(hv:∀o∈v,Opok o)(hl:v.length<=1048576){B:Int}(hB1:1<=B)(hB:B<=1048577){s:PS}(hs:PInv B s){body:Int×PS->Option ((Int×PS)⊕PS)}
  (hb:∀(i:Nat) (hi:i<v.length) (t:PS),(∀r,zcA zaB v[i] t.1 t.2.1 t.2.2.1 t.2.2.2.1 t.2.2.2.2=some r->body ((i:Int),t)=some (.inl (((i+1:Nat):Int),r.2)))) (he:∀t,body ((v.length:Int),t)=some (.inr t)):
  iter body ((0:Int),s)=some (yzR v s):=by
 have key:∀(f i:Nat) (C:Int) (t:PS),f+i=v.length->1<=C->C+f<=1099511627776->PInv C t->∀g,f<g->zoW body g ((i:Int),t)=some (yzR (v.drop i) t):=by
  intro f
  induction f with
  |zero=>
   intro i C t hi _ _ _ g hg
   obtain⟨g,rfl⟩:∃m,g=m+1:=⟨g-1,by omega⟩
   have hi:i=v.length:=by omega
   subst hi
   rw[zdA (he t),List.drop_length];rfl
  |succ f ih=>
   intro i C t hi hC hf ht g hg
   obtain⟨g,rfl⟩:∃m,g=m+1:=⟨g-1,by omega⟩
   have hlt:i<v.length:=by omega
   have hd:=xdU (show C<=1099511627776 by omega) ht (hv _ (List.getElem_mem hlt))
   rw[zcE (hb i hlt t _ hd),ih (i+1) (C+1) _ (by omega) (by omega) (by omega) (ylH hC ht _) g (by omega),List.drop_eq_getElem_cons hlt]
   rfl
 exact key v.length 0 B s (by omega) hB1 (by omega) hs FU (by unfold FU;omega)
theorem yiE{α:Type}{l:List α}{i:Nat}(h:i<l.length):chk (decide ((0:Int)<=(i:Int))&&decide ((i:Int)<(l.length:Int)))=some ():=by
 rw[decide_eq_true (show(0:Int)<=(i:Int) by omega),decide_eq_true (show(i:Int)<(l.length:Int) by omega)];rfl
theorem ytJ{σ β:Type}{body:Int×σ->Option ((Int×σ)⊕β)}{n:Nat}(hn:n<=1048576)(s:σ){b:β}(hb:∀i:Nat,i<n->body ((i:Int),s)=some (.inl (((i+1:Nat):Int),s)))(he:body ((n:Int),s)=some (.inr b)):iter body ((0:Int),s)=some b:=by
 have key:∀(f i:Nat),f+i=n->∀g,f<g->zoW body g ((i:Int),s)=some b:=by
  intro f
  induction f with
  |zero=>
   intro i hi g hg
   obtain⟨g,rfl⟩:∃m,g=m+1:=⟨g-1,by omega⟩
   have hi:i=n:=by omega
   subst hi
   exact zdA he
  |succ f ih=>
   intro i hi g hg
   obtain⟨g,rfl⟩:∃m,g=m+1:=⟨g-1,by omega⟩
   rw[zcE (hb i (by omega))]
   exact ih (i+1) (by omega) g (by omega)
 exact key n 0 (by omega) FU (by unfold FU;omega)
def dgE(b:Bool):L8:=bif b then [49]else [48]
def lisE(l:List L8):List L8:=Lib.decDigits l.length::l
abbrev GrT:Type:=L8×List L8×List L8×List L8×Int
def txC(c:Cl):List L8:=[c.2.1,dgE c.2.2.2.2.1++dgE c.2.2.2.2.2.1++dgE c.2.2.2.2.2.2.1++dgE c.2.2.2.2.2.2.2]++(lisE c.2.2.1++lisE c.2.2.2.1)
def txG(g:GrT):List L8:=[Lib.decDigits g.2.2.2.2.toNat]++(lisE g.2.1++(lisE g.2.2.1++lisE g.2.2.2.1))
def txU(u:Us):List L8:=[u.2.1,dgE u.2.2.1,Lib.decDigits u.2.2.2.toNat]
def rowC(c:Cl):L8×L8:=([99,108,105,101,110,116,47]++c.1,zeJ (txC c))
def rowG(g:GrT):L8×L8:=([103,114,111,117,112,47]++g.1,zeJ (txG g))
def rowM(m:L8×L8):L8×L8:=([109,97,121,47]++m.1++[124]++m.2,zeJ [])
def rowR(r:Ro):L8×L8:=([114,111,108,101,47]++r.1,zeJ (lisE r.2))
def rowU(u:Us):L8×L8:=([117,115,101,114,47]++u.1,zeJ (txU u))
def yaV(s:PS):List (L8×L8):=(clE s).map rowC++((grE s).map rowG++((maE s).map rowM++((roE s).map rowR++(usE s).map rowU)))
def yeE(s:PS):List (L8×L8):=ycK (yaV s)
theorem ybT(b:Bool):zgJ zaB b=some (dgE b):=by cases b<;>rfl
theorem yhE(b:Bool):(dgE b).length=1:=by cases b<;>rfl
theorem zuO{l:List L8}(h:l.length<=1024):zcW zaB l=some (lisE l):=by
 unfold zcW
 rw[yqR _ (by omega),zaA,zlJ (by simp;omega),zaA]
 rfl
theorem ybV{n:Nat}(h:n<=1099511627777):(Lib.decDigits n).length<=1024:=Nat.le_trans (zzG 13 n (by decide) (by omega)) (by decide)
theorem yaQ{l:List L8}(h:l.length<=1000)(ht:∀t∈l,t.length<=1024):(lisE l).length<=1001/\∀t∈lisE l,t.length<=1024:=by
 unfold lisE
 refine⟨by simp;omega,fun t h'=>?_⟩
 rcases List.mem_cons.1 h' with rfl|h'
 ·exact ybV (by omega)
 ·exact ht t h'
theorem ywI{ls:List (List L8)}(h:∀l∈ls,l.length<=2000)(hl:ls.length<=8):zjA zaB ls=some ls.flatten:=by
 have k1:∀(f i a:Nat),f+i=ls.length->a<=2000*i->∀g,f<g->∃b:Nat,b<=16000/\zoW (fun x:Int×Int=>zhU zaB ls x.1 x.2) g ((a:Int),(i:Int))=some (b:Int):=by
  intro f
  induction f with
  |zero=>
   intro i a hi ha g hg
   obtain⟨g,rfl⟩:∃m,g=m+1:=⟨g-1,by omega⟩
   refine⟨a,by omega,zdA ?_⟩
   unfold zhU
   simp only
   rw[zdG (by omega)]
  |succ f ih=>
   intro i a hi ha g hg
   obtain⟨g,rfl⟩:∃m,g=m+1:=⟨g-1,by omega⟩
   have hlt:i<ls.length:=by omega
   have hll:=h _ (List.getElem_mem hlt)
   obtain⟨b,hb,e⟩:=ih (i+1) (a+ls[i].length) (by omega) (by omega) g (by omega)
   refine⟨b,hb,(zcE ?_).trans e⟩
   unfold zhU
   simp only
   rw[zdU (by omega),zfO rfl hlt,zaA,show w64 ((a:Int)+(ls[i].length:Int))=((a+ls[i].length:Nat):Int) by rw[zqB (by omega) (by omega)];omega,zdG (by omega),zrK (by omega)]
 have k2:∀(f i:Nat) (acc:List L8),f+i=ls.length->acc.length<=2000*i->∀g,f<g->zoW (fun x:Int×List L8=>zhT zaB ls x.1 x.2) g ((i:Int),acc)=some (acc++(ls.drop i).flatten):=by
  intro f
  induction f with
  |zero=>
   intro i acc hi ha g hg
   obtain⟨g,rfl⟩:∃m,g=m+1:=⟨g-1,by omega⟩
   have hi:i=ls.length:=by omega
   subst hi
   rw[List.drop_length,List.flatten_nil,List.append_nil]
   refine zdA ?_
   unfold zhT
   simp only
   rw[zdG (by omega)]
  |succ f ih=>
   intro i acc hi ha g hg
   obtain⟨g,rfl⟩:∃m,g=m+1:=⟨g-1,by omega⟩
   have hlt:i<ls.length:=by omega
   have hll:=h _ (List.getElem_mem hlt)
   rw[List.drop_eq_getElem_cons hlt,List.flatten_cons,<-List.append_assoc,<-ih (i+1) (acc++ls[i]) (by omega) (by rw[List.length_append];omega) g (by omega)]
   refine zcE ?_
   unfold zhT
   simp only
   rw[zdU (by omega),zfO rfl hlt,zaA,zlJ (by omega),zaA,zrK (by omega)]
 obtain⟨b,hb,e1⟩:=k1 ls.length 0 0 (by omega) (by omega) FU (by unfold FU;omega)
 have e2:=k2 ls.length 0 [] (by omega) (by simp) FU (by unfold FU;omega)
 unfold zjA
 rw[show iter (fun x:Int×Int=>zhU zaB ls x.1 x.2) ((0:Int),(0:Int))=_ from e1,zaA]
 have e3:yqF .s (b:Int)=some ([]:List L8):=by
  unfold yqF
  rw[decide_eq_true (show(0:Int)<=(b:Int) by omega),decide_eq_true (show(b:Int)<=1048576 by omega)];rfl
 refine Eq.trans (bind_ok e3) ?_
 rw[show iter (fun x:Int×List L8=>zhT zaB ls x.1 x.2) ((0:Int),([]:List L8))=_ from e2,zaA]
 rfl
theorem yxV{s:L8}(h:txB s=true):s.length<=1024:=by
 by_cases hs:s.length<=1048576
 ·rw[xtU s hs,Bool.and_eq_true,Bool.and_eq_true]at h
  have:=of_decide_eq_true h.1.2
  omega
 ·exfalso
  have h1:=yvL s
  rw[h]at h1
  unfold zcV at h1
  have hne:(s != ([]:L8))=true:=by
   cases s with
   |nil=>exact absurd (Nat.zero_le _) hs
   |cons a l=>rfl
  rw[hne,cond_true,zdG (by omega)]at h1
  cases h1
theorem yzU{s:L8}(h:scB s=true):s.length<=1024:=by
 rw[xuM,Bool.and_eq_true,Bool.and_eq_true]at h
 have:=of_decide_eq_true h.1.2
 omega
theorem ztD{n:Nat}{may:L8->Bool}{l:List L8}(h:ybY n may l=true):(∀t∈l,may t=true)/\RiL l/\l.length<=n:=by
 unfold ybY at h
 simp only[Bool.and_eq_true,decide_eq_true_eq,List.all_eq_true]at h
 exact⟨h.1.1,ydA.1 h.1.2,h.2⟩
theorem yhN{c:Cl}(h:cliB c=true):nmB c.1=true/\c.2.1.length<=64/\ybY 16 txB c.2.2.1=true/\ybY 16 scB c.2.2.2.1=true:=by
 unfold cliB at h
 simp only[Bool.and_eq_true,Bool.or_eq_true,decide_eq_true_eq,beq_iff_eq]at h
 obtain⟨⟨⟨h1,h2⟩,h3⟩,h4⟩:=h
 refine⟨h1,?_,h3,h4⟩
 rcases h2 with h2|h2
 ·rw[h2];exact Nat.zero_le _
 ·omega
theorem xjG{c:Cl}(h:cliB c=true):(txC c).length<=1024/\(∀t∈txC c,t.length<=1024)/\(lisE c.2.2.1).length<=2000/\(lisE c.2.2.2.1).length<=2000:=by
 obtain⟨_,h2,h3,h4⟩:=yhN h
 obtain⟨a1,_,a3⟩:=ztD h3
 obtain⟨b1,_,b3⟩:=ztD h4
 have l1:=yaQ (l:=c.2.2.1) (by omega) fun t ht=>yxV (a1 t ht)
 have l2:=yaQ (l:=c.2.2.2.1) (by omega) fun t ht=>yzU (b1 t ht)
 have e1:(lisE c.2.2.1).length=c.2.2.1.length+1:=rfl
 have e2:(lisE c.2.2.2.1).length=c.2.2.2.1.length+1:=rfl
 refine⟨?_,fun t ht=>?_,by omega,by omega⟩
 ·unfold txC
  simp only[List.length_append,List.length_cons,List.length_nil,e1,e2];omega
 ·unfold txC at ht
  rcases List.mem_append.1 ht with ht|ht
  ·rcases List.mem_cons.1 ht with rfl|ht
   ·omega
   ·rw[List.mem_singleton.1 ht]
    simp only[List.length_append,yhE];omega
  ·rcases List.mem_append.1 ht with ht|ht
   ·exact l1.2 t ht
   ·exact l2.2 t ht
def GrOk(g:GrT):Prop:=g.1.length<=24/\(g.2.1.length<=64/\∀t∈g.2.1,t.length<=24)/\(g.2.2.1.length<=64/\∀t∈g.2.2.1,t.length<=24)/\(g.2.2.2.1.length<=64/\∀t∈g.2.2.2.1,t.length<=24)/\1<=g.2.2.2.2/\g.2.2.2.2<=1099511627776
theorem PInv.hasK_nm{B:Int}{s:PS}(h:PInv B s){i:Nat}(hi:i<3){x:L8}(hx:hasK i s x=true):nmB x=true:=by
 match i,hi with
 |0,_=>
  obtain⟨v,hv⟩:=kS.has_iff.1 (show mhas keqS s.1 x=true from hx)
  exact(h.us x v hv).2.1
 |1,_=>
  obtain⟨v,hv⟩:=kS.has_iff.1 (show mhas keqS s.2.1 x=true from hx)
  exact(h.gn x v hv).1
 |2,_=>
  obtain⟨v,hv⟩:=kS.has_iff.1 (show mhas keqS s.2.2.1 x=true from hx)
  have h1:=h.ro x v hv
  have h2:=zaT h1.2
  rw[h1.1]at h2;exact h2
theorem xpK{B:Int}(hB:B<=1099511627776){s:PS}(h:PInv B s):∀g∈grE s,GrOk g:=fun g hg=>by
 obtain⟨p,hp,rfl⟩:=List.mem_map.1 hg
 have h1:=h.gn p.1 p.2 hp
 have h2:=fun i hi=>(h.gl p.1 p.2 hp i hi).2
 refine⟨ziE h1.1,⟨h.lst_len hp (i:=0) (by decide),fun t ht=>ziE (h.hasK_nm (i:=0) (by decide) (h2 0 (by decide) t ht))⟩,⟨h.lst_len hp (i:=1) (by decide),fun t ht=>ziE (h.hasK_nm (i:=1) (by decide) (h2 1 (by decide) t ht))⟩,⟨h.lst_len hp (i:=2) (by decide),fun t ht=>ziE (h.hasK_nm (i:=2) (by decide) (h2 2 (by decide) t ht))⟩,h1.2.1,?_⟩
 have:=h1.2.2
 show p.2.2<=_
 omega
theorem xjL{g:GrT}(h:GrOk g):(txG g).length<=1024/\(∀t∈txG g,t.length<=1024):=by
 obtain⟨_,⟨a1,a2⟩,⟨b1,b2⟩,⟨c1,c2⟩,d1,d2⟩:=h
 have l1:=yaQ (l:=g.2.1) (by omega) fun t ht=>Nat.le_trans (a2 t ht) (by decide)
 have l2:=yaQ (l:=g.2.2.1) (by omega) fun t ht=>Nat.le_trans (b2 t ht) (by decide)
 have l3:=yaQ (l:=g.2.2.2.1) (by omega) fun t ht=>Nat.le_trans (c2 t ht) (by decide)
 have e1:(lisE g.2.1).length=g.2.1.length+1:=rfl
 have e2:(lisE g.2.2.1).length=g.2.2.1.length+1:=rfl
 have e3:(lisE g.2.2.2.1).length=g.2.2.2.1.length+1:=rfl
 refine⟨?_,fun t ht=>?_⟩
 ·unfold txG
  simp only[List.length_append,List.length_cons,List.length_nil,e1,e2,e3];omega
 ·unfold txG at ht
  rcases List.mem_append.1 ht with ht|ht
  ·rw[List.mem_singleton.1 ht];exact ybV (by omega)
  ·rcases List.mem_append.1 ht with ht|ht
   ·exact l1.2 t ht
   ·rcases List.mem_append.1 ht with ht|ht
    ·exact l2.2 t ht
    ·exact l3.2 t ht
theorem yqX{k:L8}{ts:List L8}{acc:List (L8×L8)}(h:ts.length<=1024/\∀t∈ts,t.length<=1024)(ha:acc.length<=1048576):zcC zaB k ts acc=some (acc++[(k,zeJ ts)]):=by
 unfold zcC
 rw[ycV h.2 h.1,zaA,zlJ (by simp;omega),zaA]
theorem ykB{γ:Type}{es:List γ}{s:PS}{f:γ->L8×L8}{body:Int×UM×GM×RM×CM×MM×List γ×List (L8×L8)->Option ((Int×UM×GM×RM×CM×MM×List γ×List (L8×L8))⊕(UM×GM×RM×CM×MM×List (L8×L8)))}(hl:es.length<=1024)
  (hb:∀(i:Nat) (hi:i<es.length) (acc:List (L8×L8)),acc.length<=8192->body ((i:Int),s.1,s.2.1,s.2.2.1,s.2.2.2.1,s.2.2.2.2,es,acc)=some (.inl (((i+1:Nat):Int),s.1,s.2.1,s.2.2.1,s.2.2.2.1,s.2.2.2.2,es,acc++[f es[i]])))
  (he:∀acc,body ((es.length:Int),s.1,s.2.1,s.2.2.1,s.2.2.2.1,s.2.2.2.2,es,acc)=some (.inr (s.1,s.2.1,s.2.2.1,s.2.2.2.1,s.2.2.2.2,acc))) (acc:List (L8×L8)) (ha:acc.length<=4096):iter body ((0:Int),s.1,s.2.1,s.2.2.1,s.2.2.2.1,s.2.2.2.2,es,acc)=some (s.1,s.2.1,s.2.2.1,s.2.2.2.1,s.2.2.2.2,acc++es.map f):=by
 have key:∀(k i:Nat) (acc:List (L8×L8)),k+i=es.length->acc.length+k<=8192->∀g,k<g->zoW body g ((i:Int),s.1,s.2.1,s.2.2.1,s.2.2.2.1,s.2.2.2.2,es,acc)=some (s.1,s.2.1,s.2.2.1,s.2.2.2.1,s.2.2.2.2,acc++(es.drop i).map f):=by
  intro k
  induction k with
  |zero=>
   intro i acc hi _ g hg
   obtain⟨g,rfl⟩:∃m,g=m+1:=⟨g-1,by omega⟩
   have hi:i=es.length:=by omega
   subst hi
   rw[zdA (he acc),List.drop_length,List.map_nil,List.append_nil]
  |succ k ih=>
   intro i acc hi ha g hg
   obtain⟨g,rfl⟩:∃m,g=m+1:=⟨g-1,by omega⟩
   have hlt:i<es.length:=by omega
   rw[zcE (hb i hlt acc (by omega)),ih (i+1) _ (by omega) (by simp;omega) g (by omega),List.drop_eq_getElem_cons hlt,List.map_cons,List.append_assoc]
   rfl
 have:=key es.length 0 acc (by omega) (by omega) FU (by unfold FU;omega)
 rw[List.drop_zero]at this
 exact this
theorem xgW(a:L8){n:L8}(ha:a.length<=64)(h:n.length<=24):app a n=some (a++n):=zlJ (by omega)
theorem xbD{B:Int}{s:PS}(h:PInv B s):∀r∈roE s,ydQ r=true:=fun r hr=>by
 obtain⟨p,hp,rfl⟩:=List.mem_map.1 hr
 exact(h.ro p.1 p.2 hp).2
theorem yxJ{B:Int}{s:PS}(h:PInv B s):∀c∈clE s,cliB c=true:=fun c hc=>by
 obtain⟨p,hp,rfl⟩:=List.mem_map.1 hc
 exact(h.cl p.1 p.2 hp).2
theorem ywZ{B:Int}{s:PS}(h:PInv B s):∀u∈usE s,nmB u.1=true/\txB u.2.1=true/\1<=u.2.2.2/\u.2.2.2<=B:=fun u hu=>by
 obtain⟨p,hp,rfl⟩:=List.mem_map.1 hu
 have:=h.us p.1 p.2 hp
 have e:p.2.1=p.1:=this.1
 exact⟨by rw[e];exact this.2.1,this.2.2⟩
theorem ysJ{p:L8}(h:prB p=true):p.length<=26:=by
 obtain⟨c,l,rfl,_,hl⟩:=ygF h
 have:=ziE hl
 simp only[List.length_cons];omega
theorem ylL{B:Int}{s:PS}(h:PInv B s):∀m∈maE s,prB m.1=true/\prB m.2=true:=fun m hm=>by
 obtain⟨p,hp,rfl⟩:=List.mem_map.1 hm
 have:=h.ma p hp
 exact⟨this.1,this.2.1⟩
theorem ymP:∀{l:List L8},l.Nodup->nodupB l=true
 |[],_=>rfl
 |x::l,h=>by
  have hc:=List.nodup_cons.1 h
  unfold nodupB
  rw[ymP hc.2,Bool.and_true,Bool.not_eq_true',List.any_eq_false]
  intro y hy
  simp only[beq_iff_eq]
  exact fun e=>hc.1 (by rw[<-e];exact hy)
theorem yzX{p:L8}(h:prB p=true):(124:UInt8)∉p:=by
 obtain⟨c,l,rfl,hc,hl⟩:=ygF h
 rw[xrY,Bool.and_eq_true,Bool.and_eq_true,List.all_eq_true]at hl
 intro hm
 rcases List.mem_cons.1 hm with e|hm
 ·rcases hc with rfl|rfl<;>cases e
 ·rcases List.mem_cons.1 hm with e|hm
  ·cases e
  ·have:=hl.2 _ hm
   rw[xkW]at this;cases this
theorem xbM:∀{a c:L8} {b d:L8},(124:UInt8)∉a->(124:UInt8)∉c->a++124::b=c++124::d->a=c/\b=d
 |[],[],b,d,_,_,e=>⟨rfl,by simpa using e⟩
 |[],x::c,b,d,_,hc,e=>by
  have:(124:UInt8)=x:=by injection e
  exact absurd (by rw[this];exact List.mem_cons_self) hc
 |x::a,[],b,d,ha,_,e=>by
  have:x=(124:UInt8):=by injection e
  exact absurd (by rw[this];exact List.mem_cons_self) ha
 |x::a,y::c,b,d,ha,hc,e=>by
  have e1:x=y:=by injection e
  have e2:a++124::b=c++124::d:=by injection e
  obtain⟨h1,h2⟩:=xbM (fun h=>ha (List.mem_cons_of_mem _ h)) (fun h=>hc (List.mem_cons_of_mem _ h)) e2
  exact⟨by rw[e1,h1],h2⟩
theorem rows_nodup{B:Int}{s:PS}(h:PInv B s):((yaV s).map (·.1)).Nodup:=by
 have nd:∀{γ δ:Type} {es:List (L8×γ)} {pre:L8} {f:δ->L8×L8} {g:L8×γ->δ},Ri kltS es->(∀p∈es,(f (g p)).1=pre++p.1)->(((es.map g).map f).map (·.1)).Nodup:=fun {γ δ es pre f g} hR hf=>by
  have e:((es.map g).map f).map (·.1)=(es.map (·.1)).map (pre ++ ·):=by
   rw[List.map_map,List.map_map,List.map_map]
   exact List.map_congr_left fun p hp=>hf p hp
  rw[e]
  refine List.Pairwise.map _ (fun a b hab e=>hab (List.append_cancel_left e)) (RiL.nodup (List.pairwise_map.2 hR))
 have n1:(((clE s).map rowC).map (·.1)).Nodup:=nd (g:=fun p:L8×Cl=>p.2) (pre:=[99,108,105,101,110,116,47]) h.cR fun p hp=>by
  show _++p.2.1=_
  rw[(h.cl p.1 p.2 hp).1]
 have n2:(((grE s).map rowG).map (·.1)).Nodup:=nd (g:=fun p:L8×Gr=>(p.1,p.2.1.1,p.2.1.2.1,p.2.1.2.2,p.2.2)) (pre:=[103,114,111,117,112,47]) h.gR fun p hp=>rfl
 have n4:(((roE s).map rowR).map (·.1)).Nodup:=nd (g:=fun p:L8×Ro=>p.2) (pre:=[114,111,108,101,47]) h.rR fun p hp=>by
  show _++p.2.1=_
  rw[(h.ro p.1 p.2 hp).1]
 have n5:(((usE s).map rowU).map (·.1)).Nodup:=nd (g:=fun p:L8×Us=>p.2) (pre:=[117,115,101,114,47]) h.uR fun p hp=>by
  show _++p.2.1=_
  rw[(h.us p.1 p.2 hp).1]
 have n3:(((maE s).map rowM).map (·.1)).Nodup:=by
  rw[List.map_map]
  have hn:(maE s).Nodup:=(List.pairwise_map.2 (h.mR.imp fun {p q} hpq=>kSS.lt_ne hpq):(s.2.2.2.2.map (·.1)).Pairwise (· ≠ ·))
  refine List.pairwise_map.2 (List.Pairwise.imp_of_mem (fun {a b} ha hb hab e=>?_) hn)
  have e:[109,97,121,47]++a.1++[124]++a.2=[109,97,121,47]++b.1++[124]++b.2:=e
  rw[List.append_assoc,List.append_assoc,List.append_assoc,List.append_assoc]at e
  obtain⟨h1,h2⟩:=xbM (yzX (ylL h a ha).1) (yzX (ylL h b hb).1) (List.append_cancel_left e)
  exact hab (Prod.ext h1 h2)
 have hd:∀{γ:Type} {l:List γ} {f:γ->L8×L8} {c:UInt8},(∀x,(f x).1.head? = some c)->∀k∈(l.map f).map (·.1),k.head? = some c:=fun {γ l f c} hf k hk=>by
  rw[List.map_map]at hk
  obtain⟨x,_,rfl⟩:=List.mem_map.1 hk
  exact hf x
 have d1:=hd (l:=clE s) (f:=rowC) (c:=99) fun _=>rfl
 have d2:=hd (l:=grE s) (f:=rowG) (c:=103) fun _=>rfl
 have d3:=hd (l:=maE s) (f:=rowM) (c:=109) fun _=>rfl
 have d4:=hd (l:=roE s) (f:=rowR) (c:=114) fun _=>rfl
 have d5:=hd (l:=usE s) (f:=rowU) (c:=117) fun _=>rfl
 unfold yaV
 simp only[List.map_append]at *
 refine List.nodup_append.2 ⟨n1,List.nodup_append.2 ⟨n2,List.nodup_append.2 ⟨n3,List.nodup_append.2 ⟨n4,n5,fun a ha b hb e=>?_⟩,fun a ha b hb e=>?_⟩,fun a ha b hb e=>?_⟩,fun a ha b hb e=>?_⟩
 ·have h1:=d4 a ha
  have h2:=d5 b hb
  rw[e,h2]at h1;cases h1
 ·have h1:=d3 a ha
  rw[e]at h1
  rcases List.mem_append.1 hb with hb|hb
  ·rw[d4 b hb]at h1;cases h1
  ·rw[d5 b hb]at h1;cases h1
 ·have h1:=d2 a ha
  rw[e]at h1
  rcases List.mem_append.1 hb with hb|hb
  ·rw[d3 b hb]at h1;cases h1
  ·rcases List.mem_append.1 hb with hb|hb
   ·rw[d4 b hb]at h1;cases h1
   ·rw[d5 b hb]at h1;cases h1
 ·have h1:=d1 a ha
  rw[e]at h1
  rcases List.mem_append.1 hb with hb|hb
  ·rw[d2 b hb]at h1;cases h1
  ·rcases List.mem_append.1 hb with hb|hb
   ·rw[d3 b hb]at h1;cases h1
   ·rcases List.mem_append.1 hb with hb|hb
    ·rw[d4 b hb]at h1;cases h1
    ·rw[d5 b hb]at h1;cases h1
theorem rows_ok{B:Int}(hB:B<=1099511627776){s:PS}(h:PInv B s):zbD zaB s.1 s.2.1 s.2.2.1 s.2.2.2.1 s.2.2.2.2=some (yeE s,s):=by
 have lc:(clE s).length<=32:=by unfold clE;rw[List.length_map];exact h.cL
 have lg:(grE s).length<=32:=by unfold grE;rw[List.length_map];exact h.gL
 have lm:(maE s).length<=64:=by unfold maE;rw[List.length_map];exact h.mL
 have lr:(roE s).length<=32:=by unfold roE;rw[List.length_map];exact h.rL
 have lu:(usE s).length<=64:=by unfold usE;rw[List.length_map];exact h.uL
 unfold zbD
 rw[yuL h,zaA]
 simp only
 rw[ykB (s:=s) (es:=clE s) (f:=rowC) (by omega) (fun i hi acc ha=>by
  obtain⟨c,hc⟩:∃c,(clE s)[i]=c:=⟨_,rfl⟩
  have hcb:=yxJ h _ (List.getElem_mem hi)
  rw[hc]at hcb
  obtain⟨t1,t2,t3,t4⟩:=xjG hcb
  obtain⟨q1,q2,q3,q4⟩:=yhN hcb
  have q5:=(ztD q3).2.2
  have q6:=(ztD q4).2.2
  simp only
  unfold zjO
  simp only
  rw[zdU (by omega),yiE hi,zaA,zfO rfl hi,zaA,hc,xgW _ (by decide) (ziE q1),zaA,ybT,zaA,ybT,zaA,zlJ (by simp only[yhE];omega),zaA,ybT,zaA,zlJ (by simp only[List.length_append,yhE];omega),zaA,ybT,zaA,zlJ (by simp only[List.length_append,yhE];omega),zaA,zuO (by omega),zaA,zuO (by omega),zaA,ywI (fun l hl=>by
   rcases List.mem_cons.1 hl with rfl|hl
   ·simp
   ·rcases List.mem_cons.1 hl with rfl|hl
    ·exact t3
    ·rw[List.mem_singleton.1 hl];exact t4) (by simp),zaA]
  have e:[[c.2.1,dgE c.2.2.2.2.1++dgE c.2.2.2.2.2.1++dgE c.2.2.2.2.2.2.1++dgE c.2.2.2.2.2.2.2],lisE c.2.2.1,lisE c.2.2.2.1].flatten=txC c:=by
   unfold txC
   simp only[List.flatten_cons,List.flatten_nil,List.append_nil]
  rw[e,yqX (k:=[99,108,105,101,110,116,47]++c.1) (ts:=txC c) ⟨t1,t2⟩ (by omega),zaA,zrK (by omega)]
  rfl) (fun acc=>by
  simp only
  unfold zjO
  simp only
  rw[zdG (by omega)]) [] (by simp),zaA]
 simp only
 rw[ynI h,zaA]
 simp only
 rw[ykB (s:=s) (es:=grE s) (f:=rowG) (by omega) (fun i hi acc ha=>by
  obtain⟨g,hg⟩:∃g,(grE s)[i]=g:=⟨_,rfl⟩
  have hgb:=xpK hB h _ (List.getElem_mem hi)
  rw[hg]at hgb
  obtain⟨t1,t2⟩:=xjL hgb
  obtain⟨q1,q2,q3,q4,q5,q6⟩:=hgb
  obtain⟨n,hn⟩:∃n:Nat,g.2.2.2.2=(n:Int):=⟨g.2.2.2.2.toNat,by omega⟩
  simp only
  unfold zjL
  simp only
  rw[zdU (by omega),yiE hi,zaA,zfO rfl hi,zaA,hg,xgW _ (by decide) q1,zaA,hn,yqR n (by omega),zaA,zuO (by omega),zaA,zuO (by omega),zaA,zuO (by omega),zaA,ywI (fun l hl=>by
   have e1:(lisE g.2.1).length=g.2.1.length+1:=rfl
   have e2:(lisE g.2.2.1).length=g.2.2.1.length+1:=rfl
   have e3:(lisE g.2.2.2.1).length=g.2.2.2.1.length+1:=rfl
   rcases List.mem_cons.1 hl with rfl|hl
   ·simp
   ·rcases List.mem_cons.1 hl with rfl|hl
    ·omega
    ·rcases List.mem_cons.1 hl with rfl|hl
     ·omega
     ·rw[List.mem_singleton.1 hl];omega) (by simp),zaA]
  have e:[[Lib.decDigits n],lisE g.2.1,lisE g.2.2.1,lisE g.2.2.2.1].flatten=txG g:=by
   unfold txG
   rw[hn,Int.toNat_natCast]
   simp only[List.flatten_cons,List.flatten_nil,List.append_nil]
  rw[e,yqX (k:=[103,114,111,117,112,47]++g.1) (ts:=txG g) ⟨t1,t2⟩ (by omega),zaA,zrK (by omega)]
  rfl) (fun acc=>by
  simp only
  unfold zjL
  simp only
  rw[zdG (by omega)]) _ (by simp only[List.nil_append,List.length_map];omega),zaA]
 simp only
 rw[xoL h,zaA]
 simp only
 have hm:∀(k i:Nat) (acc:List (L8×L8)),k+i=(maE s).length->acc.length+k<=8192->∀g,k<g->zoW (fun x:Int×UM×GM×RM×CM×MM×List (L8×L8)=>zgC zaB (maE s,s) x.1 x.2.1 x.2.2.1 x.2.2.2.1 x.2.2.2.2.1 x.2.2.2.2.2.1 x.2.2.2.2.2.2) g ((i:Int),s.1,s.2.1,s.2.2.1,s.2.2.2.1,s.2.2.2.2,acc)=some (s.1,s.2.1,s.2.2.1,s.2.2.2.1,s.2.2.2.2,acc++((maE s).drop i).map rowM):=by
  intro k
  induction k with
  |zero=>
   intro i acc hi _ g hg
   obtain⟨g,rfl⟩:∃m,g=m+1:=⟨g-1,by omega⟩
   have hi:i=(maE s).length:=by omega
   subst hi
   rw[List.drop_length,List.map_nil,List.append_nil]
   refine zdA ?_
   simp only
   unfold zgC
   rw[zdG (by simp only;omega)]
  |succ k ih=>
   intro i acc hi ha g hg
   obtain⟨g,rfl⟩:∃m,g=m+1:=⟨g-1,by omega⟩
   have hlt:i<(maE s).length:=by omega
   rw[List.drop_eq_getElem_cons hlt,List.map_cons,show acc++(rowM (maE s)[i]::((maE s).drop (i+1)).map rowM)=(acc++[rowM (maE s)[i]])++((maE s).drop (i+1)).map rowM by rw[List.append_assoc];rfl,<-ih (i+1) (acc++[rowM (maE s)[i]]) (by omega) (by simp;omega) g (by omega)]
   refine zcE ?_
   have hmm:=ylL h _ (List.getElem_mem hlt)
   have p1:=ysJ hmm.1
   have p2:=ysJ hmm.2
   simp only
   unfold zgC
   simp only
   rw[zdU (by omega),zfO rfl hlt,zaA,zlJ (by simp;omega),zaA,zlJ (by simp;omega),zaA,zlJ (by simp;omega),zaA]
   unfold zhJ
   rw[ycV (fun _ h=>by cases h) (by simp),zaA,zlJ (by simp;omega),zaA,zaA,zrK (by omega)]
   rfl
 rw[show iter _ ((0:Int),s.1,s.2.1,s.2.2.1,s.2.2.2.1,s.2.2.2.2,_)=_ from hm (maE s).length 0 _ (by omega) (by simp only[List.nil_append,List.length_append,List.length_map];omega) FU (by unfold FU;omega),zaA,List.drop_zero]
 simp only
 rw[xgE h,zaA]
 simp only
 rw[ykB (s:=s) (es:=roE s) (f:=rowR) (by omega) (fun i hi acc ha=>by
  obtain⟨r,hr⟩:∃r,(roE s)[i]=r:=⟨_,rfl⟩
  have hrb:=xbD h _ (List.getElem_mem hi)
  rw[hr]at hrb
  have q1:=ztD (zaX hrb)
  have l1:=yaQ (l:=r.2) (by omega) fun t ht=>yzU (q1.1 t ht)
  simp only
  unfold ziZ
  simp only
  rw[zdU (by omega),yiE hi,zaA,zfO rfl hi,zaA,hr,xgW _ (by decide) (ziE (zaT hrb)),zaA,zuO (by omega),zaA,yqX (k:=[114,111,108,101,47]++r.1) (ts:=lisE r.2) ⟨by omega,l1.2⟩ (by omega),zaA,zrK (by omega)]
  rfl) (fun acc=>by
  simp only
  unfold ziZ
  simp only
  rw[zdG (by omega)]) _ (by simp only[List.nil_append,List.length_append,List.length_map];omega),zaA]
 simp only
 rw[xeC h,zaA]
 simp only
 rw[ykB (s:=s) (es:=usE s) (f:=rowU) (by omega) (fun i hi acc ha=>by
  obtain⟨u,hu⟩:∃u,(usE s)[i]=u:=⟨_,rfl⟩
  obtain⟨q1,q2,q3,q4⟩:=ywZ h _ (List.getElem_mem hi)
  rw[hu]at q1 q2 q3 q4
  obtain⟨n,hn⟩:∃n:Nat,u.2.2.2=(n:Int):=⟨u.2.2.2.toNat,by omega⟩
  simp only
  unfold ziX
  simp only
  rw[zdU (by omega),yiE hi,zaA,zfO rfl hi,zaA,hu,xgW _ (by decide) (ziE q1),zaA,ybT,zaA,hn,yqR n (by omega),zaA]
  unfold zhK
  have ht:∀t∈[u.2.1,dgE u.2.2.1,Lib.decDigits n],t.length<=1024:=fun t ht=>by
   rcases List.mem_cons.1 ht with rfl|ht
   ·exact yxV q2
   ·rcases List.mem_cons.1 ht with rfl|ht
    ·rw[yhE];decide
    ·rw[List.mem_singleton.1 ht];exact ybV (by omega)
  rw[ycV ht (by simp),zaA,zlJ (by simp;omega),zaA,zaA,zrK (by omega)]
  have e:rowU u=([117,115,101,114,47]++u.1,zeJ [u.2.1,dgE u.2.2.1,Lib.decDigits n]):=by
   unfold rowU txU
   rw[hn,Int.toNat_natCast]
  rw[e]) (fun acc=>by
  simp only
  unfold ziX
  simp only
  rw[zdG (by omega)]) _ (by simp only[List.nil_append,List.length_append,List.length_map];omega),zaA]
 simp only
 have e0:((([]++(clE s).map rowC)++(grE s).map rowG)++(maE s).map rowM++(roE s).map rowR)++(usE s).map rowU=yaV s:=by
  unfold yaV
  simp only[List.nil_append,List.append_assoc]
 rw[e0]
 have e1:ydI (yaV s)=some (yeE s):=by
  unfold ydI yeE
  have hl:(yaV s).length<1152921504606846976:=by
   unfold yaV
   simp only[List.length_append,List.length_map];omega
  rw[ymP (rows_nodup h),decide_eq_true hl];rfl
 rw[e1,zaA]
def τWkG:TE:=[(3,⟨.int .i64,1,[.v (.i .i64) (show Int from 0)],(.i .i64),8⟩),
 (9,⟨.s,1,[.v .s (show Bs from [])],.s,16⟩),
 (22,⟨.sl 9,1,[.nils],(.sl .s),24⟩),
 (31,⟨.sl 33,1,[.nils],(.sl (.pr .s .s)),24⟩),
 (33,⟨.st [(9,0),(9,1)],2,[.v .s (show Bs from []),.v .s (show Bs from [])],(.pr .s .s),32⟩),
 (34,⟨.pt 128,1,[.nilp],.un,8⟩),
 (45,⟨.sl 53,1,[.nils],(.sl (.pr (.i .i64) (.pr (.i .i64) (.pr .s (.pr .s (.pr .b (.pr (.pr .s (.sl .s)) (.pr .s (.pr .s (.pr (.sl .s) (.pr (.sl .s) (.pr .b (.pr .b (.pr .b .b)))))))))))))),24⟩),
 (53,⟨.st [(3,0),(3,1),(9,2),(9,3),(4,4),(49,5),(51,7)],15,[.v (.i .i64) (show Int from 0),.v (.i .i64) (show Int from 0),.v .s (show Bs from []),.v .s (show Bs from []),.v .b (show Bool from false),.v .s (show Bs from []),.nils,.v .s (show Bs from []),.v .s (show Bs from []),.nils,.nils,.v .b (show Bool from false),.v .b (show Bool from false),.v .b (show Bool from false),.v .b (show Bool from false)],(.pr (.i .i64) (.pr (.i .i64) (.pr .s (.pr .s (.pr .b (.pr (.pr .s (.sl .s)) (.pr .s (.pr .s (.pr (.sl .s) (.pr (.sl .s) (.pr .b (.pr .b (.pr .b .b))))))))))))),184⟩)]
theorem τ_okWkG:TEok Tryz.prog τWkG:=yvR (by kernel_rfl) (by kernel_rfl)
theorem xjJ:Tryz.prog.follows .mixedOrders=true:=by kernel_rfl
theorem xvM {G : List (Nat × Obj)} {o : Ops} [zrE G] [zoV G o] {Γ : CT} {η : HT} {f : FuncId} {fn : Func} {c : SC} (hΓ : ∀ B, GB G B -> CTok Tryz.prog Γ B) (hf : Tryz.prog.funcs[f]? = some fn) (i : (fn.name == "runtime.NumGoroutine") = false := by kernel_rfl) (j : fn.body.isNone = false := by kernel_rfl) (l : Nat.ble c.I.sl.length fn.ntmps = true := by kernel_rfl) (r : Nat.beq fn.results.toList.length c.nr = true := by kernel_rfl) (e : fnS τWkG Γ η fn c.I c.outs = c.p := by kernel_rfl) : SCok Tryz.prog G f c := witO (G := G) (o := o) <| xeL xjJ τ_okWkG hΓ hf (isFn hf i j) l r e
theorem xqJ {G : List (Nat × Obj)} {o : Ops} [zrE G] [zoV G o] {Γ : CT} {η : HT} {f : FuncId} {fn : Func} {c : PC} (hΓ : ∀ B, GB G B -> CTok Tryz.prog Γ B) (hf : Tryz.prog.funcs[f]? = some fn) (i : (fn.name == "runtime.NumGoroutine") = false := by kernel_rfl) (j : fn.body.isNone = false := by kernel_rfl) (l : Nat.ble c.ash.length fn.ntmps = true := by kernel_rfl) (r : c.cl = false := by kernel_rfl) (e : fnP τWkG Γ η fn c.ash c.rts = c.p := by kernel_rfl) : PCok Tryz.prog G f c := witO (G := G) (o := o) <| xgV xjJ τ_okWkG hΓ hf (isFn hf i j) l r e
section
variable {tabs:List (Nat×Obj)}[zrE tabs]{o:Ops}[zoV tabs o]
def zcF(_o:Ops)(v0:List (Bs×Bs))(v1:List (Bs×Bs))(v2:Int):Option (Int⊕(Bool⊕Unit)):=
 bif decide (v2<(v0.length:Int))then((idx v0 v2).bind fun v3=>(idx v1 v2).bind fun v4=>bif(!((v3.1==v4.1)&&(v3.2==v4.2)))then some (.inr (.inl false))else some (.inl (w64 (v2+1))))else some (.inr (.inr ()))
def zcK(o:Ops)(v0:List (Bs×Bs))(v1:List (Bs×Bs)):Option (Bool):=
 bif((v0.length:Int) != (v1.length:Int))then(some false)else((iter (zcF o v0 v1) (0:Int)).bind fun v5=>match v5 with
 |.inl v6=>(some v6)
 |.inr _v7=>(some true))
def zkB(o:Ops):PC:=⟨[(.h (.sl (.pr .s .s))),(.h (.sl (.pr .s .s)))],[.b],fun x=>zcK o x.1 x.2,false⟩
theorem zsV:PCok Tryz.prog tabs 27 (zkB o):=xqJ (o:=o) (η:=[(200004,.loop [] ⟨[(5,hI)],[]⟩ [0,1] [(some 1000000,⟨[(4,hB)],[]⟩),(some 0,⟨[],[]⟩)]),
 (4000006,.sch [(.pu,0,[]),(.pu,1,[]),(.pu,2,[]),(.pu,3,[]),(.pu,4,[]),(.pu,5,[]),(.pu,6,[]),(.pu,7,[]),(.pu,8,[])])]) (Γ:=⟨[],[],false,[]⟩) (ctok trivial trivial) Tryz.func27
end
theorem ynU(l:List (L8×L8))(hl:l.length<=1048576):zcK zaB l l=some true:=by
 have key:∀(f i:Nat),f+i=l.length->∀g,f<g->zoW (zcF zaB l l) g (i:Int)=some (.inr ()):=by
  intro f
  induction f with
  |zero=>
   intro i hi g hg
   obtain⟨g,rfl⟩:∃m,g=m+1:=⟨g-1,by omega⟩
   have hi:i=l.length:=by omega
   subst hi
   refine zdA ?_
   unfold zcF
   rw[zdG (by omega)]
  |succ f ih=>
   intro i hi g hg
   obtain⟨g,rfl⟩:∃m,g=m+1:=⟨g-1,by omega⟩
   have hlt:i<l.length:=by omega
   refine(zcE ?_).trans (ih (i+1) (by omega) g (by omega))
   unfold zcF
   rw[zdU (by omega),zfO rfl hlt,zaA,zaA,beq_self_eq_true,beq_self_eq_true,zrK (by omega)]
   rfl
 unfold zcK
 rw[bne_self_eq_false,cond_false,show iter (zcF zaB l l) (0:Int)=_ from key l.length 0 (by omega) FU (by unfold FU;omega),zaA]
theorem yhB{B:Int}{s:PS}(h:PInv B s):(yeE s).length<=1048576:=by
 have e:(yeE s).length=(yaV s).length:=(zeT _ _).length_eq
 rw[e]
 unfold yaV clE grE maE roE usE
 simp only[List.length_append,List.length_map]
 have:=h.uL;have:=h.gL;have:=h.rL;have:=h.cL;have:=h.mL
 omega
theorem xmR(o:Ops)(s:L8):ztM o s=ztT o s:=rfl
theorem xtH{m:UInt8}{d r:L8}(h:m∉d)(hl:(d++m::r).length<=1048576):zaB.cut (d++m::r) [m]=some (d,r,true):=by
 show cutP _ [m]=_
 unfold cutP
 rw[decide_eq_true (show(d++m::r).length<4294967281 by omega),yuA h]
 rfl
theorem ygB(t:L8)(l:List L8)(b:Bool):zbU zaB (t::l) b=some (t,l,b):=by
 unfold zbU
 rw[show(((t::l).length:Int)==0)=false from beq_eq_false_iff_ne.2 (by rw[List.length_cons];omega),cond_false,show idx (t::l) (0:Int)=some t from zfO (i:=0) rfl (by simp),zaA,show subL (t::l) (1:Int)=some l from xdW (n:=1) (by simp),zaA]
theorem xjK{n:Nat}(h:n<1000000000000000)(l:List L8):zdL zaB (Lib.decDigits n::l) false=some ((n:Int),l,false):=by
 unfold zdL
 rw[ygB,zaA]
 simp only
 rw[ymD n h,zaA]
 rfl
theorem ykW{l rest:List L8}(h:l.length<=1024):zbV zaB (lisE l++rest) false=some (l,rest,false):=by
 unfold zbV
 rw[show lisE l++rest=Lib.decDigits l.length::(l++rest)from rfl,xjK (by omega),zaA]
 unfold zqC
 simp only[cond_false]
 rw[zdG (by rw[List.length_append];omega),zaA]
 simp only
 rw[xcF (by rw[List.length_append];omega),zaA,zvY _ (by rw[List.length_take];omega),zaA,xdW (by rw[List.length_append];omega),zaA,List.take_left',List.drop_left']<;>rfl
theorem yqU{l:List L8}(h:l.length<=1024):zbV zaB (lisE l) false=some (l,[],false):=by
 have:=ykW (l:=l) (rest:=[]) h
 rwa[List.append_nil]at this
theorem xjA{n:Int}(h1:1<=n)(h2:n<=1099511627776)(l:List L8):zcX zaB (Lib.decDigits n.toNat::l) false=some (n,l,false):=by
 unfold zcX
 rw[xjK (by omega),zaA]
 have e:(n.toNat:Int)=n:=by omega
 simp only[cond_false,e]
 rw[zdG (by omega),decide_eq_false (by omega)]
theorem yeX(b:Bool)(l:List L8):zcG zaB (dgE b) l false=some (b,l,false):=by cases b<;>rfl
inductive Ent where
 |c (c:Cl)
 |g (g:GrT)
 |m (m:L8×L8)
 |r (r:Ro)
 |u (u:Us)
def Ent.row:Ent->L8×L8
 |.c x=>rowC x
 |.g x=>rowG x
 |.m x=>rowM x
 |.r x=>rowR x
 |.u x=>rowU x
def Ent.ok:Ent->Prop
 |.c x=>cliB x=true
 |.g x=>GrOk x/\nmB x.1=true
 |.m x=>prB x.1=true/\prB x.2=true
 |.r x=>ydQ x=true
 |.u x=>nmB x.1=true/\txB x.2.1=true/\1<=x.2.2.2/\x.2.2.2<=1099511627776
def Ent.put(s:PS):Ent->PS
 |.c x=>(s.1,s.2.1,s.2.2.1,mset keqS kltS s.2.2.2.1 x.1 x,s.2.2.2.2)
 |.g x=>(s.1,mset keqS kltS s.2.1 x.1 ((x.2.1,x.2.2.1,x.2.2.2.1),x.2.2.2.2),s.2.2)
 |.m x=>(s.1,s.2.1,s.2.2.1,s.2.2.2.1,mset keqM kltM s.2.2.2.2 x ())
 |.r x=>(s.1,s.2.1,mset keqS kltS s.2.2.1 x.1 x,s.2.2.2)
 |.u x=>(mset keqS kltS s.1 x.1 x,s.2)
theorem yaX{k n:L8}{ts:List L8}(hk:(47:UInt8)∉k)(hl:(k++47::n).length<=1048576)(ht:∀t∈ts,t.length<=1024)(hn:ts.length<=1024)(s t:PS)(h:zbJ zaB (ts,true) (k,n,true) s=some (.inr (true,t.1,t.2.1,t.2.2.1,t.2.2.2.1,t.2.2.2.2,[],false))):
  zaU zaB (k++47::n,zeJ ts) s.1 s.2.1 s.2.2.1 s.2.2.2.1 s.2.2.2.2=some (true,t):=by
 have hf:=yfA ts ht
 unfold zaU
 rw[xmR,xdY ts (by omega) (by omega),zaA]
 simp only
 rw[show zaB.cut (k++47::n) ([47]:L8)=_ from xtH hk hl,zaA]
 unfold zkP
 simp only[Bool.not_true,cond_false,zaA]
 rw[h,zaA]
 rfl
theorem xmQ{x:Us}(h:(Ent.u x).ok)(s:PS):zaU zaB (rowU x) s.1 s.2.1 s.2.2.1 s.2.2.2.1 s.2.2.2.2=some (true,(Ent.u x).put s):=by
 obtain⟨h1,h2,h3,h4⟩:=h
 have hk:=ziE h1
 have hm:=yxV h2
 have e:=yaX (k:=[117,115,101,114]) (n:=x.1) (ts:=txU x) (by decide) (by simp;omega) (fun t ht=>by
  rcases List.mem_cons.1 ht with rfl|ht
  ·exact hm
  ·rcases List.mem_cons.1 ht with rfl|ht
   ·rw[yhE];decide
   ·rw[List.mem_singleton.1 ht];exact ybV (by omega)) (by simp[txU]) s ((Ent.u x).put s)
 refine e ?_
 unfold zbJ
 simp only
 rw[show(([117,115,101,114]:L8)==[99,108,105,101,110,116])=false from rfl,show(([117,115,101,114]:L8)==[103,114,111,117,112])=false from rfl,show(([117,115,101,114]:L8)==[109,97,121])=false from rfl,show(([117,115,101,114]:L8)==[114,111,108,101])=false from rfl,show(([117,115,101,114]:L8)==[117,115,101,114])=true from rfl]
 simp only[cond_false,cond_true]
 unfold txU
 rw[ygB,zaA,ygB,zaA]
 simp only
 rw[yeX,zaA]
 simp only
 rw[xjA h3 h4,zaA]
 simp only
 rw[zuD,h1,zaA,cond_true,yvL,h2,zaA]
 rfl
theorem xnZ{x:Ro}(h:ydQ x=true)(s:PS):zaU zaB (rowR x) s.1 s.2.1 s.2.2.1 s.2.2.2.1 s.2.2.2.2=some (true,(Ent.r x).put s):=by
 have hn:=zaT h
 have hr:=ztD (zaX h)
 have hk:=ziE hn
 have hl:=yaQ (l:=x.2) (by omega) fun t ht=>yzU (hr.1 t ht)
 have e:=yaX (k:=[114,111,108,101]) (n:=x.1) (ts:=lisE x.2) (by decide) (by simp;omega) hl.2 (by omega) s ((Ent.r x).put s)
 refine e ?_
 unfold zbJ
 simp only
 rw[show(([114,111,108,101]:L8)==[99,108,105,101,110,116])=false from rfl,show(([114,111,108,101]:L8)==[103,114,111,117,112])=false from rfl,show(([114,111,108,101]:L8)==[109,97,121])=false from rfl,show(([114,111,108,101]:L8)==[114,111,108,101])=true from rfl]
 simp only[cond_false,cond_true]
 rw[yqU (by omega),zaA]
 simp only
 rw[ywL (r:=(x.1,x.2)) (by simp only;omega),zaA,show ydQ (x.1,x.2)=true from h]
 rfl
theorem xmV{x:L8×L8}(h:prB x.1=true/\prB x.2=true)(s:PS):zaU zaB (rowM x) s.1 s.2.1 s.2.2.1 s.2.2.2.1 s.2.2.2.2=some (true,(Ent.m x).put s):=by
 have h1:=ysJ h.1
 have h2:=ysJ h.2
 have e:=yaX (k:=[109,97,121]) (n:=x.1++124::x.2) (ts:=[]) (by decide) (by simp;omega) (fun t ht=>by cases ht) (by decide) s ((Ent.m x).put s)
 rw[show rowM x=([109,97,121]++47::(x.1++124::x.2),zeJ [])from by unfold rowM;simp]
 refine e ?_
 unfold zbJ
 simp only
 rw[show(([109,97,121]:L8)==[99,108,105,101,110,116])=false from rfl,show(([109,97,121]:L8)==[103,114,111,117,112])=false from rfl,show(([109,97,121]:L8)==[109,97,121])=true from rfl]
 simp only[cond_false,cond_true]
 rw[show zaB.cut (x.1++124::x.2) ([124]:L8)=_ from xtH (yzX h.1) (by simp;omega),zaA]
 simp only[cond_true]
 rw[xbT,h.1,zaA,cond_true,xbT,h.2,zaA]
 rfl
theorem xmS{x:Cl}(h:cliB x=true)(s:PS):zaU zaB (rowC x) s.1 s.2.1 s.2.2.1 s.2.2.2.1 s.2.2.2.2=some (true,(Ent.c x).put s):=by
 obtain⟨p1,p2,p3,p4⟩:=yhN h
 have hk:=ziE p1
 have ht:=xjG h
 have r3:=ztD p3
 have r4:=ztD p4
 have e:=yaX (k:=[99,108,105,101,110,116]) (n:=x.1) (ts:=txC x) (by decide) (by simp;omega) ht.2.1 ht.1 s ((Ent.c x).put s)
 refine e ?_
 unfold zbJ
 simp only
 rw[show(([99,108,105,101,110,116]:L8)==[99,108,105,101,110,116])=true from rfl]
 simp only[cond_true]
 unfold txC
 generalize hfl:dgE x.2.2.2.2.1++dgE x.2.2.2.2.2.1++dgE x.2.2.2.2.2.2.1++dgE x.2.2.2.2.2.2.2=fl
 have hf4:fl.length=4:=by rw[<-hfl];simp[yhE]
 simp only[List.cons_append,List.nil_append]
 rw[ygB,zaA,ygB,zaA]
 simp only
 rw[show((fl.length:Int) != 4)=false by rw[hf4];rfl,cond_false]
 have f1:subH fl (1:Int)=some (dgE x.2.2.2.2.1):=by rw[<-hfl];generalize x.2.2.2.2=q;obtain⟨a,b,c,d⟩:=q;cases a<;>cases b<;>cases c<;>cases d<;>rfl
 have f2:sub3 fl (1:Int) (2:Int)=some (dgE x.2.2.2.2.2.1):=by rw[<-hfl];generalize x.2.2.2.2=q;obtain⟨a,b,c,d⟩:=q;cases a<;>cases b<;>cases c<;>cases d<;>rfl
 have f3:sub3 fl (2:Int) (3:Int)=some (dgE x.2.2.2.2.2.2.1):=by rw[<-hfl];generalize x.2.2.2.2=q;obtain⟨a,b,c,d⟩:=q;cases a<;>cases b<;>cases c<;>cases d<;>rfl
 have f4:subL fl (3:Int)=some (dgE x.2.2.2.2.2.2.2):=by rw[<-hfl];generalize x.2.2.2.2=q;obtain⟨a,b,c,d⟩:=q;cases a<;>cases b<;>cases c<;>cases d<;>rfl
 rw[f1,zaA,f2,zaA,f3,zaA,f4,zaA,yeX,zaA]
 simp only
 rw[yeX,zaA]
 simp only
 rw[yeX,zaA]
 simp only
 rw[yeX,zaA]
 simp only
 rw[ykW (by omega),zaA]
 simp only
 rw[yqU (by omega),zaA]
 simp only
 rw[xjR (c:=(x.1,x.2.1,x.2.2.1,x.2.2.2.1,x.2.2.2.2.1,x.2.2.2.2.2.1,x.2.2.2.2.2.2.1,x.2.2.2.2.2.2.2)) (by simp only;omega) (by simp only;omega) (by simp only;omega),zaA,show cliB _=true from h]
 rfl
theorem xoO{x:GrT}(h:GrOk x)(hn:nmB x.1=true)(s:PS):zaU zaB (rowG x) s.1 s.2.1 s.2.2.1 s.2.2.2.1 s.2.2.2.2=some (true,(Ent.g x).put s):=by
 have hk:=ziE hn
 have ht:=xjL h
 obtain⟨_,⟨a1,_⟩,⟨b1,_⟩,⟨c1,_⟩,d1,d2⟩:=h
 have e:=yaX (k:=[103,114,111,117,112]) (n:=x.1) (ts:=txG x) (by decide) (by simp;omega) ht.2 ht.1 s ((Ent.g x).put s)
 refine e ?_
 unfold zbJ
 simp only
 rw[show(([103,114,111,117,112]:L8)==[99,108,105,101,110,116])=false from rfl,show(([103,114,111,117,112]:L8)==[103,114,111,117,112])=true from rfl]
 simp only[cond_false,cond_true]
 unfold txG
 simp only[List.cons_append,List.nil_append]
 rw[xjA d1 d2,zaA]
 simp only
 have key:∀g,4<=g->zoW (fun(y:Int×UM×GM×RM×CM×MM×List L8×Bool×List L8×List L8×List L8×Int)=>zbI zaB y.1 y.2.1 y.2.2.1 y.2.2.2.1 y.2.2.2.2.1 y.2.2.2.2.2.1 y.2.2.2.2.2.2.1 y.2.2.2.2.2.2.2.1 y.2.2.2.2.2.2.2.2.1 y.2.2.2.2.2.2.2.2.2.1 y.2.2.2.2.2.2.2.2.2.2.1 y.2.2.2.2.2.2.2.2.2.2.2) g ((0:Int),s.1,s.2.1,s.2.2.1,s.2.2.2.1,s.2.2.2.2,lisE x.2.1++(lisE x.2.2.1++lisE x.2.2.2.1),false,([]:List L8),([]:List L8),([]:List L8),x.2.2.2.2)=some (s.1,s.2.1,s.2.2.1,s.2.2.2.1,s.2.2.2.2,([]:List L8),false,x.2.1,x.2.2.1,x.2.2.2.1,x.2.2.2.2):=by
  intro g hg
  obtain⟨g,rfl⟩:∃m,g=m+1+1+1+1:=⟨g-4,by omega⟩
  rw[zcE (s':=((1:Int),s.1,s.2.1,s.2.2.1,s.2.2.2.1,s.2.2.2.2,lisE x.2.2.1++lisE x.2.2.2.1,false,x.2.1,([]:List L8),([]:List L8),x.2.2.2.2)) (by
   unfold zbI
   simp only
   rw[zdU (by decide),ykW (by omega),zaA,zdU trivial];rfl)]
  rw[zcE (s':=((2:Int),s.1,s.2.1,s.2.2.1,s.2.2.2.1,s.2.2.2.2,lisE x.2.2.2.1,false,x.2.1,x.2.2.1,([]:List L8),x.2.2.2.2)) (by
   unfold zbI
   simp only
   rw[zdU (by decide),ykW (by omega),zaA,zdG (by decide),zdU trivial];rfl)]
  rw[zcE (s':=((3:Int),s.1,s.2.1,s.2.2.1,s.2.2.2.1,s.2.2.2.2,([]:List L8),false,x.2.1,x.2.2.1,x.2.2.2.1,x.2.2.2.2)) (by
   unfold zbI
   simp only
   rw[zdU (by decide),yqU (by omega),zaA,zdG (by decide),zdG (by decide),zdU trivial];rfl)]
  refine zdA ?_
  unfold zbI
  simp only
  rw[zdG (by decide)]
 rw[show iter (fun(y:Int×UM×GM×RM×CM×MM×List L8×Bool×List L8×List L8×List L8×Int)=>zbI zaB y.1 y.2.1 y.2.2.1 y.2.2.2.1 y.2.2.2.2.1 y.2.2.2.2.2.1 y.2.2.2.2.2.2.1 y.2.2.2.2.2.2.2.1 y.2.2.2.2.2.2.2.2.1 y.2.2.2.2.2.2.2.2.2.1 y.2.2.2.2.2.2.2.2.2.2.1 y.2.2.2.2.2.2.2.2.2.2.2) _=_ from key FU (by unfold FU;omega),zaA]
 simp only
 rw[zuD,hn,zaA]
 rfl
theorem xgN{x:Ent}(h:x.ok)(s:PS):zaU zaB x.row s.1 s.2.1 s.2.2.1 s.2.2.2.1 s.2.2.2.2=some (true,x.put s):=by
 cases x with
 |c x=>exact xmS h s
 |g x=>exact xoO h.1 h.2 s
 |m x=>exact xmV h s
 |r x=>exact xnZ h s
 |u x=>exact xmQ h s
theorem rising{l:List L8}(hr:RiL l){may:L8->Bool}(hh:∀x∈l,may x=true)(hl:l.length<=1048576){s:PS}{body:Int×PS->Option ((Int×PS)⊕((Bool×PS)⊕PS))}
  (hb:∀(k:Nat) (hk:k<l.length),body ((k:Int),s)=bif !(may l[k])then some (.inr (.inl (false,s)))else bif decide ((k:Int)>(0:Int))then((idx l (w64 ((k:Int)-(1:Int)))).bind fun v15=>bif(Op.bytesLess l[k] v15||l[k]==v15)then some (.inr (.inl (false,s)))else some (.inl (w64 ((k:Int)+(1:Int)),s)))else some (.inl (w64 ((k:Int)+(1:Int)),s)))
  (he:body ((l.length:Int),s)=some (.inr (.inr s))):iter body ((0:Int),s)=some (.inr s):=by
 refine ytJ hl s (fun i hi=>?_) he
 have hb:=hb i hi
 rw[hh _ (List.getElem_mem hi),Bool.not_true,cond_false,zrK (by omega)]at hb
 rw[hb]
 cases i with
 |zero=>rfl
 |succ k=>
  rw[decide_eq_true (show(((k+1:Nat):Int))>0 by omega),cond_true,show w64 (((k+1:Nat):Int)-1)=(k:Int) by rw[zqB (by omega) (by omega)];omega,zfO rfl (show k<l.length by omega),zaA]
  have h1:kltS l[k] l[k+1]=true:=List.pairwise_iff_getElem.1 hr k (k+1) (by omega) hi (by omega)
  have h2:Op.bytesLess l[k+1] l[k]=false:=by
   show kltS l[k+1] l[k]=false
   cases hy:kltS l[k+1] l[k] with
   |false=>rfl
   |true=>have:=kS.tr h1 hy;rw[kS.irr]at this;cases this
  rw[h2,beq_false_of_ne (kS.lt_ne h1).symm];rfl
theorem yyJ{l:List L8}(hr:RiL l){s:PS}(hh:∀x∈l,hasK 0 s x=true)(hl:l.length<=1048576):ziP zaB l (l.length:Int) s.1 s.2.1 s.2.2.1 s.2.2.2.1 s.2.2.2.2=some (true,s):=by
 unfold ziP
 rw[show iter (fun x:Int×PS=>zkU zaB l x.1 x.2.1 x.2.2.1 x.2.2.2.1 x.2.2.2.2.1 x.2.2.2.2.2) ((0:Int),s)=_ from rising hr (may:=hasK 0 s) hh hl (fun k hk=>by
  unfold zkU zcU
  simp only
  rw[zdU (by omega),zfO rfl hk,zaA,zaA];rfl) (by unfold zkU;simp only;rw[zdG (by omega)]),zaA]
 simp only
 rw[decide_eq_true (by omega)]
theorem ywR{l:List L8}(hr:RiL l){s:PS}(hh:∀x∈l,hasK 1 s x=true)(hl:l.length<=1048576):ziU zaB l (l.length:Int) s.1 s.2.1 s.2.2.1 s.2.2.2.1 s.2.2.2.2=some (true,s):=by
 unfold ziU
 rw[show iter (fun x:Int×PS=>zkT zaB l x.1 x.2.1 x.2.2.1 x.2.2.2.1 x.2.2.2.2.1 x.2.2.2.2.2) ((0:Int),s)=_ from rising hr (may:=hasK 1 s) hh hl (fun k hk=>by
  unfold zkT zcS
  simp only
  rw[zdU (by omega),zfO rfl hk,zaA,zaA];rfl) (by unfold zkT;simp only;rw[zdG (by omega)]),zaA]
 simp only
 rw[decide_eq_true (by omega)]
theorem xbS{l:List L8}(hr:RiL l){s:PS}(hh:∀x∈l,hasK 2 s x=true)(hl:l.length<=1048576):zjP zaB l (l.length:Int) s.1 s.2.1 s.2.2.1 s.2.2.2.1 s.2.2.2.2=some (true,s):=by
 unfold zjP
 rw[show iter (fun x:Int×PS=>zkV zaB l x.1 x.2.1 x.2.2.1 x.2.2.2.1 x.2.2.2.2.1 x.2.2.2.2.2) ((0:Int),s)=_ from rising hr (may:=hasK 2 s) hh hl (fun k hk=>by
  unfold zkV zcR
  simp only
  rw[zdU (by omega),zfO rfl hk,zaA,zaA];rfl) (by unfold zkV;simp only;rw[zdG (by omega)]),zaA]
 simp only
 rw[decide_eq_true (by omega)]
abbrev WB:Type:=UM×GM×RM×CM×MM×List L8×List L8×List L8×Int×List L8
theorem xeV{B:Int}{s:PS}(h:PInv B s){k:L8}{g:Gr}(hg:(k,g)∈s.2.1)(left:List L8):
  iter (fun x:Int×WB=>zcJ zaB x.1 x.2.1 x.2.2.1 x.2.2.2.1 x.2.2.2.2.1 x.2.2.2.2.2.1 x.2.2.2.2.2.2.1 x.2.2.2.2.2.2.2.1 x.2.2.2.2.2.2.2.2.1 x.2.2.2.2.2.2.2.2.2.1 x.2.2.2.2.2.2.2.2.2.2) ((0:Int),s.1,s.2.1,s.2.2.1,s.2.2.2.1,s.2.2.2.2,g.1.1,g.1.2.1,g.1.2.2,g.2,left)=some (.inr (s.1,s.2.1,s.2.2.1,s.2.2.2.1,s.2.2.2.2,left)):=by
 have hgl:=h.gl k g hg
 have hlen:∀i,i<3->(lst i g).length<=64:=fun i hi=>h.lst_len hg hi
 have r3:=yyJ (hgl 0 (by decide)).1 (s:=s) (hgl 0 (by decide)).2 (by have:=hlen 0 (by decide);omega)
 have r4:=ywR (hgl 1 (by decide)).1 (s:=s) (hgl 1 (by decide)).2 (by have:=hlen 1 (by decide);omega)
 have r5:=xbS (hgl 2 (by decide)).1 (s:=s) (hgl 2 (by decide)).2 (by have:=hlen 2 (by decide);omega)
 refine ytJ (n:=3) (by decide) (s.1,s.2.1,s.2.2.1,s.2.2.2.1,s.2.2.2.2,g.1.1,g.1.2.1,g.1.2.2,g.2,left) (fun i hi=>?_) ?_
 ·match i,hi with
  |0,_=>
   unfold zcJ zfL
   simp only
   rw[zdU (by decide),zdU (by decide),zaA]
   simp only
   rw[show ziP zaB g.1.1 (g.1.1.length:Int) s.1 s.2.1 s.2.2.1 s.2.2.2.1 s.2.2.2.2=_ from r3,zaA]
   rfl
  |1,_=>
   unfold zcJ zfL
   simp only
   rw[zdU (by decide),zdG (by decide),zdU (by decide),zaA]
   simp only
   rw[show ziU zaB g.1.2.1 (g.1.2.1.length:Int) s.1 s.2.1 s.2.2.1 s.2.2.2.1 s.2.2.2.2=_ from r4,zaA]
   rfl
  |2,_=>
   unfold zcJ zfL
   simp only
   rw[zdU (by decide),zdG (by decide),zdG (by decide),zdU (by decide),zaA]
   simp only
   rw[show zjP zaB g.1.2.2 (g.1.2.2.length:Int) s.1 s.2.1 s.2.2.1 s.2.2.2.1 s.2.2.2.2=_ from r5,zaA]
   rfl
 ·unfold zcJ
  simp only
  rw[zdG (by decide)]
theorem yyZ{B:Int}{s:PS}(h:PInv B s):rngA (fun x:T6 (List L8)=>zfH zaB x.1 x.2.1 x.2.2.1 x.2.2.2.1 x.2.2.2.2.1 x.2.2.2.2.2) (s.1,s.2.1,s.2.2.1,s.2.2.2.1,s.2.2.2.2,List.map Prod.fst s.2.1)=some (.inl s):=by
 refine ymB (fun x=>ztK _ _ _) (fun x=>x=(s.1,s.2.1,s.2.2.1,s.2.2.2.1,s.2.2.2.2,x.2.2.2.2.2)) (fun x=>x.2.2.2.2.2.length) (fun x hx o ho=>?_) rfl
 obtain⟨left,rfl⟩:∃left,x=(s.1,s.2.1,s.2.2.1,s.2.2.2.1,s.2.2.2.2,left):=⟨_,hx⟩
 have ho:o∈zfH zaB s.1 s.2.1 s.2.2.1 s.2.2.2.1 s.2.2.2.2 left:=ho
 unfold zfH at ho
 rcases ywD ho with⟨_,rfl⟩|⟨p,hp,rfl⟩
 ·exact .inr rfl
 ·obtain⟨hp1,hp2⟩:=kS.rngC_mem.1 hp
  left
  rw[kS.get_mem h.gR (k:=p.1) (v:=p.2) hp1,zaA]
  unfold zaM
  simp only[zaA]
  rw[xeV h (k:=p.1) (g:=p.2) hp1,zaA]
  exact⟨_,rfl,rfl,kS.rngD_len hp2⟩
theorem xaX{B:Int}{s:PS}(h:PInv B s):rngA (fun x:T6 (List (L8×L8))=>zfI zaB x.1 x.2.1 x.2.2.1 x.2.2.2.1 x.2.2.2.2.1 x.2.2.2.2.2) (s.1,s.2.1,s.2.2.1,s.2.2.2.1,s.2.2.2.2,List.map Prod.fst s.2.2.2.2)=some (.inl s):=by
 refine ymB (fun x=>ztK _ _ _) (fun x=>x=(s.1,s.2.1,s.2.2.1,s.2.2.2.1,s.2.2.2.2,x.2.2.2.2.2)) (fun x=>x.2.2.2.2.2.length) (fun x hx o ho=>?_) rfl
 obtain⟨left,rfl⟩:∃left,x=(s.1,s.2.1,s.2.2.1,s.2.2.2.1,s.2.2.2.2,left):=⟨_,hx⟩
 have ho:o∈zfI zaB s.1 s.2.1 s.2.2.1 s.2.2.2.1 s.2.2.2.2 left:=ho
 unfold zfI at ho
 rcases ywD ho with⟨_,rfl⟩|⟨p,hp,rfl⟩
 ·exact .inr rfl
 ·obtain⟨hp1,hp2⟩:=kSS.rngC_mem.1 hp
  obtain⟨m1,m2,m3,m4⟩:=h.ma p hp1
  left
  rw[show mget (keq (.pr .s .s)) s.2.2.2.2 p.1=some p.2 from kSS.get_mem h.mR (k:=p.1) (v:=p.2) hp1,zaA]
  rw[yeP m1,zaA,m3]
  simp only[Bool.not_true,cond_false]
  rw[yeP m2,zaA,m4]
  exact⟨_,rfl,rfl,kSS.rngD_len hp2⟩
abbrev LM:Type:=List (L8×List L8)
def yhR(G:GM):LM:=mmap (fun _ g=>lst 1 g) G
theorem zyV{G:GM}{k:L8}{l:List L8}:(k,l)∈yhR G↔∃g,(k,g)∈G/\l=lst 1 g:=by
 unfold yhR mmap
 rw[List.mem_map]
 constructor
 ·rintro⟨p,hp,e⟩
  cases e;exact⟨p.2,hp,rfl⟩
 ·rintro⟨g,hg,rfl⟩;exact⟨_,hg,rfl⟩
theorem xfU{B:Int}{s:PS}(h:PInv B s):rngA (fun x:UM×GM×RM×CM×MM×List L8×LM=>zeR zaB x.1 x.2.1 x.2.2.1 x.2.2.2.1 x.2.2.2.2.1 x.2.2.2.2.2.1 x.2.2.2.2.2.2) (s.1,s.2.1,s.2.2.1,s.2.2.2.1,s.2.2.2.2,List.map Prod.fst s.2.1,([]:LM))=some (s.1,s.2.1,s.2.2.1,s.2.2.2.1,s.2.2.2.2,yhR s.2.1):=by
 refine ymB (fun x=>ztK _ _ _) (fun x=>∃left acc,x=(s.1,s.2.1,s.2.2.1,s.2.2.2.1,s.2.2.2.2,left,acc)/\Ri kltS acc/\∀k l,(k,l)∈acc↔(k,l)∈yhR s.2.1/\k∉left) (fun x=>x.2.2.2.2.2.1.length) (fun x hx o ho=>?_) ⟨_,_,rfl,.nil,fun k l=>⟨(fun h=>by cases h),(fun hh=>by
  obtain⟨g,hg,_⟩:=zyV.1 hh.1
  exact absurd (List.mem_map.2 ⟨_,hg,rfl⟩) hh.2)⟩⟩
 obtain⟨left,acc,rfl,hR,hm⟩:=hx
 have ho:o∈zeR zaB s.1 s.2.1 s.2.2.1 s.2.2.2.1 s.2.2.2.2 left acc:=ho
 unfold zeR at ho
 rcases ywD ho with⟨he,rfl⟩|⟨p,hp,rfl⟩
 ·right
  have e:acc=yhR s.2.1:=kS.ext hR (ycS h.gR) fun q=>by
   obtain⟨k,l⟩:=q
   rw[hm k l]
   refine⟨fun hh=>hh.1,fun hh=>⟨hh,fun hn=>?_⟩⟩
   obtain⟨g,hg,_⟩:=zyV.1 hh
   have:=kS.rngC_mem.2 ⟨hg,hn⟩
   rw[he]at this;cases this
  rw[e]
 ·obtain⟨hp1,hp2⟩:=kS.rngC_mem.1 hp
  left
  rw[kS.get_mem h.gR (k:=p.1) (v:=p.2) hp1,zaA]
  refine⟨_,rfl,⟨_,_,rfl,kS.set_ri hR,fun k l=>?_⟩,kS.rngD_len hp2⟩
  rw[kS.set_mem hR,hm k l]
  constructor
  ·rintro(e|⟨⟨h1,h2⟩,h3⟩)
   ·cases e
    exact⟨zyV.2 ⟨p.2,hp1,rfl⟩,fun hn=>(kS.rngD_mem.1 hn).2 rfl⟩
   ·exact⟨h1,fun hn=>h2 (kS.rngD_mem.1 hn).1⟩
  ·rintro⟨h1,h2⟩
   by_cases e:k=p.1
   ·left
    subst e
    obtain⟨g,hg,rfl⟩:=zyV.1 h1
    have:=kS.get_mem h.gR hg
    rw[kS.get_mem h.gR (k:=p.1) (v:=p.2) hp1]at this
    cases this;rfl
   ·exact .inr ⟨⟨h1,fun hn=>h2 (kS.rngD_mem.2 ⟨hn,e⟩)⟩,e⟩
theorem xfN(l:List L8)(z:LM)(hl:l.length<=1048576):zfJ zaB l z=some (l.any (fun x=>mhas keqS z x),z):=by
 have key:∀(f i:Nat),f+i=l.length->∀g,f<g->zoW (fun x:Int×LM=>zdB zaB l x.1 x.2) g ((i:Int),z)=some (match (l.drop i).findIdx? (fun x=>mhas keqS z x) with
   |some k=>.inl (((i+k:Nat):Int),z)
   |none=>.inr z):=by
  intro f
  induction f with
  |zero=>
   intro i hi g hg
   obtain⟨g,rfl⟩:∃m,g=m+1:=⟨g-1,by omega⟩
   have hi:i=l.length:=by omega
   subst hi
   rw[List.drop_length]
   refine zdA ?_
   unfold zdB
   simp only
   rw[zdG (by omega)]
   rfl
  |succ f ih=>
   intro i hi g hg
   obtain⟨g,rfl⟩:∃m,g=m+1:=⟨g-1,by omega⟩
   have hlt:i<l.length:=by omega
   rw[List.drop_eq_getElem_cons hlt,List.findIdx?_cons]
   have hb:zdB zaB l (i:Int) z=bif mhas keqS z l[i]then some (.inr (.inl ((i:Int),z)))else some (.inl (((i+1:Nat):Int),z)):=by
    unfold zdB zgW
    rw[zdU (by omega),zfO rfl hlt,zaA,zaA,zrK (by omega)]
   cases hm:mhas keqS z l[i] with
   |true=>
    rw[hm]at hb
    rw[zdA (b:=.inl ((i:Int),z)) hb];rfl
   |false=>
    rw[hm]at hb
    rw[zcE (s':=(((i+1:Nat):Int),z)) hb,ih (i+1) (by omega) g (by omega)]
    simp only[if_false,Bool.false_eq_true]
    cases (l.drop (i+1)).findIdx? (fun x=>mhas keqS z x) with
    |none=>rfl
    |some k=>simp only[Option.map_some];congr 4;omega
 have h0:=key l.length 0 (by omega) FU (by unfold FU;omega)
 unfold zfJ zlA
 rw[show iter (fun x:Int×LM=>zdB zaB l x.1 x.2) ((0:Int),z)=_ from h0,zaA,List.drop_zero]
 cases hf:l.findIdx? (fun x=>mhas keqS z x) with
 |none=>
  simp only[zaA]
  rw[show l.any (fun x=>mhas keqS z x)=false from List.any_eq_false.2 fun x hx=>by rw[List.findIdx?_eq_none_iff.1 hf x hx];simp]
  rfl
 |some k=>
  simp only[zaA]
  rw[show l.any (fun x=>mhas keqS z x)=true from List.any_eq_true.2 (by
   obtain⟨hk,h1,_⟩:=List.findIdx?_eq_some_iff_getElem.1 hf
   exact⟨l[k],List.getElem_mem hk,h1⟩)]
  rw[decide_eq_true (show(((0+k:Nat)):Int)≥0 by omega)]
theorem xkK{G:GM}(ha:Acy G){t:LM}(hs:∀k l,(k,l)∈t->(k,l)∈yhR G)(hd:∀k l,(k,l)∈t->∃x∈l,mhas keqS t x=true):t=[]:=by
 obtain⟨r,hr⟩:=ha
 have key:∀(n:Nat) k l,(k,l)∈t->r k<n->False:=by
  intro n
  induction n with
  |zero=>intro k l _ h;omega
  |succ n ih=>
   intro k l hk hn
   obtain⟨x,hx,hh⟩:=hd k l hk
   obtain⟨v,hv⟩:=kS.has_iff.1 hh
   obtain⟨g,hg,rfl⟩:=zyV.1 (hs k l hk)
   have:=hr k g hg x hx
   exact ih x v hv (by omega)
 cases t with
 |nil=>rfl
 |cons p t=>exact(key (r p.1+1) p.1 p.2 List.mem_cons_self (by omega)).elim
abbrev R7:Type:=Bool×UM×GM×RM×CM×MM×LM
abbrev R8:Type:=Bool×UM×GM×RM×CM×MM×List L8×LM
theorem xeN{B:Int}{s:PS}(h:PInv B s):rngA (zmR zaB) (Sum.inl (true,s.1,s.2.1,s.2.2.1,s.2.2.2.1,s.2.2.2.2,yhR s.2.1))=some (s.1,s.2.1,s.2.2.1,s.2.2.2.1,s.2.2.2.2,([]:LM)):=by
 let ok:LM->Prop:=fun t=>t.Sublist (yhR s.2.1)
 have hN:(yhR s.2.1).length=s.2.1.length:=by unfold yhR mmap;rw[List.length_map]
 have okl:∀t,ok t->t.length<=s.2.1.length:=fun t ht=>by rw[<-hN];exact ht.length_le
 have okR:∀t,ok t->Ri kltS t:=fun t ht=>List.Pairwise.sublist ht (ycS h.gR)
 let done:LM->L8->List L8->Prop:=fun t k l=>∃x∈l,mhas keqS t x=true
 have fin:∀t,ok t->(∀k l,(k,l)∈t->done t k l)->t=[]:=fun t ht hd=>xkK h.ac (fun k l hk=>ht.subset hk) hd
 refine ymB (S:=R7⊕R8) (fun x=>by
  cases x with
  |inl x=>exact List.cons_ne_nil _ _
  |inr x=>exact ztK _ _ _) (fun x=>match x with
   |.inl y=>∃t,y=(y.1,s.1,s.2.1,s.2.2.1,s.2.2.2.1,s.2.2.2.2,t)/\ok t/\(y.1=false->t=[])
   |.inr y=>∃left t,y=(y.1,s.1,s.2.1,s.2.2.1,s.2.2.2.1,s.2.2.2.2,left,t)/\ok t/\left.length<=s.2.1.length/\(y.1=false->∀k l,(k,l)∈t->k∉left->done t k l))
  (fun x=>match x with
   |.inl y=>y.2.2.2.2.2.2.length*(2*s.2.1.length+6)+bif y.1 then s.2.1.length+2 else 0
   |.inr y=>y.2.2.2.2.2.2.2.length*(2*s.2.1.length+6)+y.2.2.2.2.2.2.1.length+1+bif y.1 then s.2.1.length+2 else 0) (fun x hx o ho=>?_) ⟨_,rfl,List.Sublist.refl _,fun h=>by cases h⟩
 cases x with
 |inl y=>
  obtain⟨t,hy,ht,hd⟩:=hx
  obtain⟨more,y2⟩:=y
  have hy2:y2=(s.1,s.2.1,s.2.2.1,s.2.2.2.1,s.2.2.2.2,t):=congrArg Prod.snd hy
  subst hy2
  have ho:o=zhP zaB more s.1 s.2.1 s.2.2.1 s.2.2.2.1 s.2.2.2.2 t:=List.mem_singleton.1 ho
  unfold zhP at ho
  cases more with
  |true=>
   refine .inl ⟨_,ho,⟨List.map Prod.fst t,t,rfl,ht,by rw[List.length_map];exact okl t ht,fun _ k l hk hn=>absurd (List.mem_map.2 ⟨_,hk,rfl⟩) hn⟩,?_⟩
   show t.length*(2*s.2.1.length+6)+(List.map Prod.fst t).length+1+0<t.length*(2*s.2.1.length+6)+(s.2.1.length+2)
   have:=okl t ht
   rw[List.length_map];omega
  |false=>
   right
   rw[<-hd rfl]
   exact ho
 |inr y=>
  obtain⟨left,t,hy,ht,hll,hd⟩:=hx
  obtain⟨more,y2⟩:=y
  have hy2:y2=(s.1,s.2.1,s.2.2.1,s.2.2.2.1,s.2.2.2.2,left,t):=congrArg Prod.snd hy
  subst hy2
  have ho:o∈zhI zaB more s.1 s.2.1 s.2.2.1 s.2.2.2.1 s.2.2.2.2 left t:=ho
  unfold zhI at ho
  rcases ywD ho with⟨he,rfl⟩|⟨p,hp,rfl⟩
  ·refine .inl ⟨_,rfl,⟨t,rfl,ht,fun hm=>fin t ht fun k l hk=>hd hm k l hk fun hn=>?_⟩,?_⟩
   ·have:=kS.rngC_mem.2 ⟨hk,hn⟩
    rw[he]at this;cases this
   ·show t.length*(2*s.2.1.length+6)+(bif more then s.2.1.length+2 else 0)<t.length*(2*s.2.1.length+6)+left.length+1+(bif more then s.2.1.length+2 else 0)
    omega
  ·obtain⟨hp1,hp2⟩:=kS.rngC_mem.1 hp
   obtain⟨g,hg,hpl⟩:=zyV.1 (ht.subset (show(p.1,p.2)∈t from hp1))
   have hlen:p.2.length<=64:=by rw[hpl];exact h.lst_len hg (by decide)
   have hd1:=kS.rngD_len hp2
   rw[kS.get_mem (okR t ht) (k:=p.1) (v:=p.2) hp1,zaA,xfN _ _ (by omega),zaA]
   left
   cases h2:p.2.any fun x=>mhas keqS t x with
   |true=>
    obtain⟨x,hx,hxt⟩:=List.any_eq_true.1 h2
    refine⟨_,rfl,⟨_,t,rfl,ht,by omega,fun hm k l hk hn=>?_⟩,?_⟩
    ·by_cases e:k=p.1
     ·subst e
      have:=kS.get_mem (okR t ht) hk
      rw[kS.get_mem (okR t ht) (k:=p.1) (v:=p.2) hp1]at this
      cases this
      exact⟨x,hx,hxt⟩
     ·exact hd hm k l hk fun hn2=>hn (kS.rngD_mem.2 ⟨hn2,e⟩)
    ·simp only;omega
   |false=>
    have hsub:=zsE (eq:=keqS) t p.1
    have hlt:(mdel keqS t p.1).length<t.length:=by
     rcases Nat.lt_or_ge (mdel keqS t p.1).length t.length with h1|h1
     ·exact h1
     ·have e:mdel keqS t p.1=t:=hsub.eq_of_length_le h1
      have:=(kS.del_mem (okR t ht) (k:=p.1) (p:=p)).1 (by rw[e];exact hp1)
      exact absurd rfl this.2
    refine⟨_,rfl,⟨_,_,rfl,hsub.trans ht,by omega,fun hm=>by cases hm⟩,?_⟩
    simp only[cond_true]
    have h3:=okl t ht
    obtain⟨d,hd⟩:∃d,t.length=(mdel keqS t p.1).length+1+d:=⟨t.length-(mdel keqS t p.1).length-1,by omega⟩
    have h4:((mdel keqS t p.1).length+1)*(2*s.2.1.length+6)<=t.length*(2*s.2.1.length+6):=Nat.mul_le_mul_right _ (by omega)
    rw[Nat.succ_mul]at h4
    have h5:0<=(bif more then s.2.1.length+2 else 0):=Nat.zero_le _
    omega
theorem xcA{B:Int}{s:PS}(h:PInv B s):zbX zaB s.1 s.2.1 s.2.2.1 s.2.2.2.1 s.2.2.2.2=some (true,s):=by
 unfold zbX
 rw[xfU h,zaA,xeN h,zaA]
 rfl
theorem xeH{B:Int}{s:PS}(h:PInv B s):zcB zaB s.1 s.2.1 s.2.2.1 s.2.2.2.1 s.2.2.2.2=some (true,s):=by
 have h1:=h.uL
 have h2:=h.gL
 have h3:=h.rL
 have h4:=h.cL
 have h5:=h.mL
 unfold zcB ziC
 rw[zdG (by omega),zdG (by omega),zdG (by omega),zdG (by omega),zdG (by omega),zaA]
 simp only
 rw[yyZ h,zaA]
 simp only
 rw[xaX h,zaA]
 simp only
 rw[xcA h,zaA]
theorem ytT{α β:Type}{le:β->β->Bool}(f:α->β)(x:α):∀l:List α,insO le (f x) (l.map f)=(insO (fun a b=>le (f a) (f b)) x l).map f
 |[]=>rfl
 |y::l=>by
  simp only[List.map_cons,insO]
  cases le (f x) (f y) with
  |true=>rfl
  |false=>simp only[cond_false,List.map_cons];rw[ytT f x l]
theorem ynV{α β:Type}{le:β->β->Bool}(f:α->β):∀l:List α,yhZ le (l.map f)=(yhZ (fun a b=>le (f a) (f b)) l).map f
 |[]=>rfl
 |x::l=>by
  simp only[List.map_cons,yhZ]
  rw[ynV f l,ytT]
section
variable {κ γ:Type}{eq lt:κ->κ->Bool}
def sets(eq lt:κ->κ->Bool)(l:List (κ×γ))(m:List (κ×γ)):List (κ×γ):=l.foldl (fun m p=>mset eq lt m p.1 p.2) m
theorem KO.sets_mem(o:KO eq lt):∀(l m:List (κ×γ)),Ri lt m->(l.map (·.1)).Nodup->(∀p∈l,∀q∈m,p.1≠q.1)->Ri lt (sets eq lt l m)/\∀p,p∈sets eq lt l m↔p∈l∨p∈m
 |[],m,hm,_,_=>⟨hm,fun p=>by simp[sets]⟩
 |x::l,m,hm,hn,hd=>by
  rw[List.map_cons,List.nodup_cons]at hn
  have ih:=o.sets_mem l (mset eq lt m x.1 x.2) (o.set_ri hm) hn.2 (fun p hp q hq=>by
   rcases(o.set_mem hm).1 hq with rfl|⟨h1,_⟩
   ·intro e
    exact hn.1 (List.mem_map.2 ⟨p,hp,e⟩)
   ·exact hd p (List.mem_cons_of_mem _ hp) q h1)
  refine⟨ih.1,fun p=>?_⟩
  show p∈sets eq lt l (mset eq lt m x.1 x.2)↔_
  rw[ih.2 p,o.set_mem hm,List.mem_cons]
  constructor
  ·rintro(h|h|⟨h,_⟩)
   ·exact .inl (.inr h)
   ·exact .inl (.inl h)
   ·exact .inr h
  ·rintro((h|h)|h)
   ·exact .inr (.inl h)
   ·exact .inl h
   ·exact .inr (.inr ⟨h,(hd x List.mem_cons_self p h).symm⟩)
theorem KO.sets_perm(o:KO eq lt){M l:List (κ×γ)}(hM:Ri lt M)(hp:l.Perm M):sets eq lt l []=M:=by
 have hn:(M.map (·.1)).Nodup:=(List.pairwise_map.2 (hM.imp fun {p q} hpq=>o.lt_ne hpq):(M.map (·.1)).Pairwise (· ≠ ·))
 have h:=o.sets_mem l [] .nil (((hp.map (·.1)).nodup_iff).2 hn) (fun p _ q hq=>by cases hq)
 exact o.ext h.1 hM fun p=>by
  rw[h.2 p,hp.mem_iff]
  simp
end
def eU:Ent->Option (L8×Us)
 |.u x=>some (x.1,x)
 |_=>none
def eG:Ent->Option (L8×Gr)
 |.g x=>some (x.1,((x.2.1,x.2.2.1,x.2.2.2.1),x.2.2.2.2))
 |_=>none
def eR:Ent->Option (L8×Ro)
 |.r x=>some (x.1,x)
 |_=>none
def eC:Ent->Option (L8×Cl)
 |.c x=>some (x.1,x)
 |_=>none
def eM:Ent->Option ((L8×L8)×Unit)
 |.m x=>some (x,())
 |_=>none
def bld(L:List Ent)(t:PS):PS:=L.foldl (fun s e=>e.put s) t
theorem xiU:∀(L:List Ent) (t:PS),bld L t=(sets keqS kltS (L.filterMap eU) t.1,sets keqS kltS (L.filterMap eG) t.2.1,sets keqS kltS (L.filterMap eR) t.2.2.1,sets keqS kltS (L.filterMap eC) t.2.2.2.1,sets keqM kltM (L.filterMap eM) t.2.2.2.2)
 |[],t=>rfl
 |e::L,t=>by
  show bld L (e.put t)=_
  rw[xiU L]
  cases e<;>rfl
def ents(s:PS):List Ent:=(clE s).map .c++((grE s).map .g++((maE s).map .m++((roE s).map .r++(usE s).map .u)))
theorem xhB(s:PS):(ents s).map Ent.row=yaV s:=by
 unfold ents yaV
 simp only[List.map_append,List.map_map]
 rfl
theorem yxD{α β:Type}{f:α->Option β}:∀{l:List α},(∀x∈l,f x=none)->l.filterMap f=[]
 |[],_=>rfl
 |x::l,h=>by rw[List.filterMap_cons,h x List.mem_cons_self];exact yxD fun y hy=>h y (List.mem_cons_of_mem _ hy)
theorem ycJ{α β:Type}{f:α->Option β}{g:α->β}:∀{l:List α},(∀x∈l,f x=some (g x))->l.filterMap f=l.map g
 |[],_=>rfl
 |x::l,h=>by rw[List.filterMap_cons,h x List.mem_cons_self,List.map_cons];simp only;rw[ycJ fun y hy=>h y (List.mem_cons_of_mem _ hy)]
theorem zyY{α:Type}{f:α->α}:∀{l:List α},(∀x∈l,f x=x)->l.map f=l
 |[],_=>rfl
 |x::l,h=>by rw[List.map_cons,h x List.mem_cons_self,zyY fun y hy=>h y (List.mem_cons_of_mem _ hy)]
theorem xfF{B:Int}{s:PS}(h:PInv B s):(ents s).filterMap eU=s.1/\(ents s).filterMap eG=s.2.1/\(ents s).filterMap eR=s.2.2.1/\(ents s).filterMap eC=s.2.2.2.1/\(ents s).filterMap eM=s.2.2.2.2:=by
 unfold ents
 simp only[List.filterMap_append]
 have n0:∀{α β:Type} (f:α->Ent) (g:Ent->Option β) (l:List α),(∀x,g (f x)=none)->(l.map f).filterMap g=[]:=fun f g l hh=>yxD fun y hy=>by
  obtain⟨x,_,rfl⟩:=List.mem_map.1 hy
  exact hh x
 refine⟨?_,?_,?_,?_,?_⟩
 ·rw[n0 Ent.c eU _ fun _=>rfl,n0 Ent.g eU _ fun _=>rfl,n0 Ent.m eU _ fun _=>rfl,n0 Ent.r eU _ fun _=>rfl]
  simp only[List.nil_append,List.filterMap_map]
  unfold usE
  rw[List.filterMap_map]
  exact(ycJ (g:=fun p:L8×Us=>(p.2.1,p.2)) fun x _=>rfl).trans (zyY fun p hp=>by rw[(h.us p.1 p.2 hp).1])
 ·rw[n0 Ent.c eG _ fun _=>rfl,n0 Ent.m eG _ fun _=>rfl,n0 Ent.r eG _ fun _=>rfl,n0 Ent.u eG _ fun _=>rfl]
  simp only[List.nil_append,List.append_nil,List.filterMap_map]
  unfold grE
  rw[List.filterMap_map]
  exact(ycJ (g:=fun p:L8×Gr=>p) fun x _=>rfl).trans (zyY fun p hp=>rfl)
 ·rw[n0 Ent.c eR _ fun _=>rfl,n0 Ent.g eR _ fun _=>rfl,n0 Ent.m eR _ fun _=>rfl,n0 Ent.u eR _ fun _=>rfl]
  simp only[List.nil_append,List.append_nil,List.filterMap_map]
  unfold roE
  rw[List.filterMap_map]
  exact(ycJ (g:=fun p:L8×Ro=>(p.2.1,p.2)) fun x _=>rfl).trans (zyY fun p hp=>by rw[(h.ro p.1 p.2 hp).1])
 ·rw[n0 Ent.g eC _ fun _=>rfl,n0 Ent.m eC _ fun _=>rfl,n0 Ent.r eC _ fun _=>rfl,n0 Ent.u eC _ fun _=>rfl]
  simp only[List.append_nil,List.filterMap_map]
  unfold clE
  rw[List.filterMap_map]
  exact(ycJ (g:=fun p:L8×Cl=>(p.2.1,p.2)) fun x _=>rfl).trans (zyY fun p hp=>by rw[(h.cl p.1 p.2 hp).1])
 ·rw[n0 Ent.c eM _ fun _=>rfl,n0 Ent.g eM _ fun _=>rfl,n0 Ent.r eM _ fun _=>rfl,n0 Ent.u eM _ fun _=>rfl]
  simp only[List.nil_append,List.append_nil,List.filterMap_map]
  unfold maE
  rw[List.filterMap_map]
  exact(ycJ (g:=fun p:(L8×L8)×Unit=>p) fun x _=>rfl).trans (zyY fun p hp=>rfl)
theorem xfE{B:Int}{s:PS}(h:PInv B s){L:List Ent}(hp:L.Perm (ents s)):bld L s0=s:=by
 obtain⟨e1,e2,e3,e4,e5⟩:=xfF h
 rw[xiU]
 have k1:=kS.sets_perm h.uR (e1▸hp.filterMap eU)
 have k2:=kS.sets_perm h.gR (e2▸hp.filterMap eG)
 have k3:=kS.sets_perm h.rR (e3▸hp.filterMap eR)
 have k4:=kS.sets_perm h.cR (e4▸hp.filterMap eC)
 have k5:=kSS.sets_perm h.mR (e5▸hp.filterMap eM)
 show(sets keqS kltS _ [],sets keqS kltS _ [],sets keqS kltS _ [],sets keqS kltS _ [],sets keqM kltM _ [])=s
 rw[k1,k2,k3,k4,k5]
theorem xmI{B:Int}(hB:B<=1099511627776){s:PS}(h:PInv B s):∀e∈ents s,e.ok:=fun e he=>by
 unfold ents at he
 rcases List.mem_append.1 he with he|he
 ·obtain⟨x,hx,rfl⟩:=List.mem_map.1 he
  exact yxJ h x hx
 ·rcases List.mem_append.1 he with he|he
  ·obtain⟨x,hx,rfl⟩:=List.mem_map.1 he
   refine⟨xpK hB h x hx,?_⟩
   obtain⟨p,hp,rfl⟩:=List.mem_map.1 hx
   exact(h.gn p.1 p.2 hp).1
  ·rcases List.mem_append.1 he with he|he
   ·obtain⟨x,hx,rfl⟩:=List.mem_map.1 he
    exact ylL h x hx
   ·rcases List.mem_append.1 he with he|he
    ·obtain⟨x,hx,rfl⟩:=List.mem_map.1 he
     exact xbD h x hx
    ·obtain⟨x,hx,rfl⟩:=List.mem_map.1 he
     obtain⟨a,b,c,d⟩:=ywZ h x hx
     exact⟨a,b,c,Int.le_trans d hB⟩
theorem xmU{L:List Ent}(hok:∀e∈L,e.ok)(hl:L.length<=1048576)(hr:(L.map Ent.row).Pairwise fun x y=>kltS x.1 y.1=true):
  iter (fun x:Int×PS=>zhW zaB (L.map Ent.row) x.1 x.2.1 x.2.2.1 x.2.2.2.1 x.2.2.2.2.1 x.2.2.2.2.2) ((0:Int),s0)=some (.inr (bld L s0)):=by
 have key:∀(f i:Nat),f+i=L.length->∀g,f<g->zoW (fun x:Int×PS=>zhW zaB (L.map Ent.row) x.1 x.2.1 x.2.2.1 x.2.2.2.1 x.2.2.2.2.1 x.2.2.2.2.2) g ((i:Int),bld (L.take i) s0)=some (.inr (bld L s0)):=by
  intro f
  induction f with
  |zero=>
   intro i hi g hg
   obtain⟨g,rfl⟩:∃m,g=m+1:=⟨g-1,by omega⟩
   have hi:i=L.length:=by omega
   subst hi
   rw[List.take_length]
   refine zdA ?_
   unfold zhW
   simp only
   rw[zdG (by rw[List.length_map];omega)]
  |succ f ih=>
   intro i hi g hg
   obtain⟨g,rfl⟩:∃m,g=m+1:=⟨g-1,by omega⟩
   have hlt:i<L.length:=by omega
   have hlt2:i<(L.map Ent.row).length:=by rw[List.length_map];exact hlt
   have hb:bld (L.take (i+1)) s0=L[i].put (bld (L.take i) s0):=by
    unfold bld
    rw[List.take_succ_eq_append_getElem hlt,List.foldl_append];rfl
   have ht:=xgN (hok _ (List.getElem_mem hlt)) (bld (L.take i) s0)
   generalize bld (L.take i) s0=t at ht hb ⊢
   rw[zcE (s':=(((i+1:Nat):Int),bld (L.take (i+1)) s0)) (by
    rw[hb]
    unfold zhW
    simp only
    rw[zdU (by omega),zfO rfl hlt2,zaA,List.getElem_map]
    cases i with
    |zero=>
     rw[zdG (by omega),ht,zaA,zrK (by omega)]
     rfl
    |succ i=>
     have hp:i<(L.map Ent.row).length:=by omega
     rw[zdU (by omega),show w64 (((i+1:Nat):Int)-1)=(i:Int) by rw[zqB (by omega) (by omega)];omega,zfO rfl hp,zaA,List.getElem_map]
     have h1:=List.pairwise_iff_getElem.1 hr i (i+1) hp hlt2 (by omega)
     rw[List.getElem_map,List.getElem_map]at h1
     have h2:Op.bytesLess L[i+1].row.1 L[i].row.1=false:=by
      show kltS _ _=false
      cases hy:kltS L[i+1].row.1 L[i].row.1 with
      |false=>rfl
      |true=>have:=kS.tr h1 hy;rw[kS.irr]at this;cases this
     rw[h2,beq_false_of_ne (kS.lt_ne h1).symm,Bool.false_or,cond_false,ht,zaA,zrK (by omega)]
     rfl)]
   exact ih (i+1) (by omega) g (by omega)
 exact key L.length 0 (by omega) FU (by unfold FU;omega)
theorem ywM{B:Int}(hB:B<=1099511627776){s:PS}(h:PInv B s):zgE zaB (yeE s)=some (.inr (0,s)):=by
 obtain⟨L,hL,hp⟩:∃L:List Ent,yeE s=L.map Ent.row/\L.Perm (ents s):=by
  refine⟨yhZ (fun a b=>leS a.row.1 b.row.1) (ents s),?_,zeT _ _⟩
  unfold yeE ycK
  rw[<-xhB]
  exact ynV (le:=fun x y:L8×L8=>leS x.1 y.1) Ent.row (ents s)
 have hlen:=yhB h
 have hnd:((yeE s).map (·.1)).Nodup:=(((zeT _ (yaV s)).map (·.1)).nodup_iff).2 (rows_nodup h)
 have hso:(yeE s).Pairwise fun x y=>leS x.1 y.1=true:=zhC (fun a b=>yhK a.1 b.1) (fun a b c=>yfM a.1 b.1 c.1) (yaV s)
 have hr:(yeE s).Pairwise fun x y=>kltS x.1 y.1=true:=by
  have h2:(yeE s).Pairwise fun x y=>x.1≠y.1:=List.pairwise_map.1 hnd
  refine(hso.and h2).imp fun {x y} hxy=>?_
  have h3:kltS y.1 x.1=false:=by
   have:=hxy.1
   unfold leS at this
   show Op.bytesLess y.1 x.1=false
   simpa using this
  exact kS.tri h3 hxy.2.symm
 rw[hL]at hlen hr
 rw[hL]
 rw[List.length_map]at hlen
 unfold zgE
 rw[xiZ,zaA,xmU (fun e he=>xmI hB h e (hp.mem_iff.1 he)) hlen hr,zaA]
 simp only
 rw[xfE h hp,xeH h,zaA]
 rfl
end Go.Proofs.YtopanhneegpgcaaGreatDoor.Am
