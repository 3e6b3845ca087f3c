/- Parts of one proof. Conditions: as each theorem says. -/
import Derived.Test.YtmbcolbbekbccaaGreatQmB
open Bool renaming and_eq_true->aL,not_eq_true'->cK,not_eq_true->dZ
open Int renaming natCast_nonneg->iD,tmod->cM
open List renaming cons_append->bO,drop_drop->dP,drop_take->iA,drop_zero->dO,ext_getElem?->aW,getElem?_append_left->aE,getElem?_append_right->aI,getElem?_eq_some_iff->aC,length_append->aF,mem_append->cG,mem_of_getElem?->bH,mem_singleton->aY,replicate->aN
open Nat renaming add_comm->jC,add_mul->bI,div_le_self->dQ,le_refl->aJ,le_trans->bC,lt_of_lt_of_le->bK,mul_le_mul_right->cB,one_mul->dG,zero_mul->eN
open Option renaming bind_some->eU
namespace Go.Proofs.YtmbcolbbekbccaaGreat
open Go Go.RowKit
section
abbrev Mem:=Nat->Option Obj
def Mem.le(S T:Mem):Prop:=∀b o,S b=some o->T b=some o
theorem Mem.le_refl(S:Mem):Mem.le S S:=fun _ _ h=>h
theorem Mem.le_trans{S T U:Mem}(h:Mem.le S T)(k:Mem.le T U):Mem.le S U:=fun b o e=>k b o (h b o e)
def jm(n:Nat)(T:TypeId):Obj:=.mapIter none n #[T] 0
def isJ:Obj->Bool
 |.mapIter none _ _ _=>true|_=>false
def Fits:Obj->Option Obj->Prop
 |.mapIter none n _ _,x=>∃c T,x=some (.cells c T (0,0))/\c.size=n|.mapIter (some a) n s k,x=>x=some (.mapIter (some a) n s k)|.cells c T z,x=>x=some (.cells c T z)|o,x=>x=some o
def nj:Option Obj->Option Obj
 |some (.mapIter none _ _ _)=>none|x=>x
theorem ypW{o:Obj}{x:Option Obj}(h:Fits o x)(hj:isJ o=false):x=some o:=by
 cases o with
 |mapIter m n s k=>cases m with
  |none=>cases hj
  |some a=>exact h
 |_=>exact h
theorem yrI{o:Obj}(hj:isJ o=false):Fits o (some o):=by
 cases o with
 |mapIter m n s k=>cases m with
  |none=>cases hj
  |some a=>rfl
 |_=>rfl
theorem ysC{o:Obj}{x:Option Obj}(h:Fits o x):∃y,x=some y:=by
 cases hj:isJ o with
 |false=>exact⟨_,ypW h hj⟩|true=>cases o with
  |mapIter m n s k=>cases m with
   |none=>obtain⟨c,T,h,_⟩:=h;exact⟨_,h⟩
   |some a=>exact⟨_,h⟩
  |_=>cases hj
theorem nj_is{x:Option Obj}{o:Obj}(h:nj x=some o):x=some o/\isJ o=false:=by
 cases x with
 |none=>cases h
 |some y=>cases y with
  |mapIter m n s k=>cases m with
   |none=>cases h
   |some a=>cases h;exact⟨rfl,rfl⟩
  |_=>cases h;exact⟨rfl,rfl⟩
theorem ymL{o:Obj}(hj:isJ o=false):nj (some o)=some o:=by
 cases o with
 |mapIter m n s k=>cases m with
  |none=>cases hj
  |some a=>rfl
 |_=>rfl
theorem zvU{x:Option Obj}{o:Obj}(h:nj x=some o):Fits o x:=by obtain⟨rfl,hj⟩:=nj_is h;exact yrI hj
def Sub(S:Mem)(w:World):Prop:=∀b o,S b=some o->Fits o w.heap[b]?
theorem lt_of_heap{w:World}{b:Nat}{o:Obj}(h:w.heap[b]? = some o):b<w.heap.size:=zeN h
theorem Sub.lt{S:Mem}{w:World}(h:Sub S w){b:Nat}{o:Obj}(hb:S b=some o):b<w.heap.size:=by obtain⟨y,hy⟩:=ysC (h b o hb);exact lt_of_heap hy
theorem Sub.none{S:Mem}{w:World}(h:Sub S w){b:Nat}(hb:w.heap.size<=b):S b=none:=by
 cases e:S b with
 |none=>rfl|some o=>have:=h.lt e;omega
theorem Sub.ext{S:Mem}{w w':World}(h:Sub S w)(hx:Ext w w'):Sub S w':=fun b o e=>by rw[Below.block hx b (h.lt e)];exact h b o e
def gr(S:Mem)(w w':World):Mem:=fun b=>if b<w.heap.size then S b else nj w'.heap[b]?
theorem ycX{S:Mem}{w w':World}(h:Sub S w):Mem.le S (gr S w w'):=fun b o e=>by unfold gr;rw[zH (h.lt e)];exact e
theorem gr_sub{S:Mem}{w w':World}(h:Sub S w)(hx:Ext w w'):Sub (gr S w w') w':=fun b o e=>by
 unfold gr at e;split at e
 ·exact h.ext hx b o e
 ·exact zvU e
def gf(S:Mem)(W:World)(F:Nat->Bool)(w:World):Mem:=fun b=>if b<W.heap.size then S b else if F b=true then nj w.heap[b]? else none
theorem xfE{S:Mem}{W w:World}{F:Nat->Bool}(h:Sub S W)(hx:Ext W w):Sub (gf S W F w) w:=fun b o e=>by
 unfold gf at e;split at e
 ·exact h.ext hx b o e
 ·split at e
  ·exact zvU e
  ·cases e
theorem xeP{S:Mem}{W w:World}{F:Nat->Bool}(h:Sub S W):Mem.le S (gf S W F w):=fun b o e=>by unfold gf;rw[zH (h.lt e)];exact e
theorem gf_up{S:Mem}{W w:World}{F G:Nat->Bool}(hF:∀b,F b=true->G b=true):Mem.le (gf S W F w) (gf S W G w):=fun b o e=>by
 unfold gf at *;split at e
 ·rename_i h;rw[zH h];exact e
 ·rename_i h;split at e
  ·rename_i h2;rw[zG h,zH (hF b h2)];exact e
  ·cases e
theorem xdS{S:Mem}{W w:World}{F:Nat->Bool}{b:Nat}(h:W.heap.size<=b)(hF:F b=false):gf S W F w b=none:=by unfold gf;rw[zG (by omega),hF];rfl
abbrev xcC:TypeId:=5
def okfz(T:TypeId)(fz:Nat×Nat)(n:Nat):Prop:=fz=(0,0)∨(n<=fz.1/\T=xcC)
inductive R0 where
 |blk (b:Nat) (cs:LV) (T:TypeId)
 |obj (b:Nat) (o:Obj)
 |osl (v:Value) (n sz:Nat) (cs rs:LV) (T:TypeId)
inductive Res where
 /-- a block -/
 |blk (b:Nat) (cs:LV) (T:TypeId)
 /-- an object of another kind -/
 |obj (b:Nat) (o:Obj)
 /-- a slice from a block's head on, and what lies behind its end: n elements of sz cells; or the nil one -/
 |osl (v:Value) (n sz:Nat) (cs rs:LV) (T:TypeId)
 /-- many of them -/
 |many (rs:List R0)
def R0.up:R0->Res
 |.blk b cs T=>.blk b cs T|.obj b o=>.obj b o|.osl v n sz cs rs T=>.osl v n sz cs rs T
def vkey:Value->Option Nat
 |.slice (some a) _ _=>some a.block|_=>none
def R0.key:R0->Option Nat
 |.blk b _ _=>some b|.obj b _=>some b|.osl v _ _ _ _ _=>vkey v
def R0.holds(w:World):R0->Prop
 |.blk b cs T=>w.heap[b]? = some (.cells cs.toArray T (0,0))|.obj b o=>w.heap[b]? = some o|.osl v n sz cs rs T=>(v = .slice none 0 0/\n=0/\cs=[]/\rs=[]) ∨
   ∃b c fz,v=sl b 0 n c/\n<=c/\cs.length=n*sz/\c*sz<=(cs++rs).length/\w.heap[b]? = some (.cells (cs++rs).toArray T fz)/\okfz T fz (cs++rs).length
def R0.apart(rs:List R0):Prop:=rs.Pairwise fun p q=>∀b,p.key=some b->q.key≠some b
def Res.holds(w:World):Res->Prop
 |.blk b cs T=>w.heap[b]? = some (.cells cs.toArray T (0,0))|.obj b o=>w.heap[b]? = some o|.osl v n sz cs rs T=>(v = .slice none 0 0/\n=0/\cs=[]/\rs=[]) ∨
   ∃b c fz,v=sl b 0 n c/\n<=c/\cs.length=n*sz/\c*sz<=(cs++rs).length/\w.heap[b]? = some (.cells (cs++rs).toArray T fz)/\okfz T fz (cs++rs).length
 |.many rs=>(∀q∈rs,q.holds w)/\R0.apart rs
def Res.has:Res->Nat->Prop
 |.blk b _ _,i=>some b=some i|.obj b _,i=>some b=some i|.osl v _ _ _ _ _,i=>vkey v=some i|.many rs,i=>∃q∈rs,q.key=some i
def Res.keys:Res->List Nat
 |.blk b _ _=>[b]|.obj b _=>[b]|.osl v _ _ _ _ _=>match vkey v with
  |some b=>[b]|none=>[]
 |.many rs=>rs.filterMap R0.key
theorem Res.mem_keys{r:Res}{b:Nat}:b∈r.keys↔r.has b:=by
 cases r with
 |blk b' cs T=>simp only[Res.keys,Res.has,aY,Option.some.injEq];exact eq_comm|obj b' o=>simp only[Res.keys,Res.has,aY,Option.some.injEq];exact eq_comm|osl v n sz cs rs T=>
  simp only[Res.keys,Res.has];cases vkey v with
  |none=>simp|some c=>simp only[aY,Option.some.injEq];exact eq_comm
 |many rs=>simp only[Res.keys,Res.has,List.mem_filterMap]
theorem R0.key_lt{w:World}{r:R0}{b:Nat}(h:r.holds w)(hk:r.key=some b):b<w.heap.size:=by
 cases r with
 |blk b' cs T=>cases hk;exact lt_of_heap h
 |obj b' o=>cases hk;exact lt_of_heap h
 |osl v n sz cs rs T=>
  rcases h with⟨rfl,_⟩|⟨b',c,fz,rfl,_,_,_,hh,_⟩
  ·cases hk
  ·cases hk;exact lt_of_heap hh
theorem R0.holds_of{w w':World}{r:R0}(h:r.holds w)(hk:∀b,r.key=some b->w'.heap[b]? = w.heap[b]?):r.holds w':=by
 cases r with
 |blk b' cs T=>show w'.heap[b']? = _;rw[hk b' rfl];exact h
 |obj b' o=>show w'.heap[b']? = _;rw[hk b' rfl];exact h
 |osl v n sz cs rs T=>
  rcases h with h|⟨b',c,fz,rfl,h1,h2,h3,hh,hf⟩
  ·exact .inl h
  ·exact .inr ⟨b',c,fz,rfl,h1,h2,h3,by rw[hk b' rfl];exact hh,hf⟩
theorem Res.key_lt{w:World}{r:Res}{b:Nat}(h:r.holds w)(hk:r.has b):b<w.heap.size:=by
 cases r with
 |blk b' cs T=>cases hk;exact lt_of_heap h
 |obj b' o=>cases hk;exact lt_of_heap h
 |osl v n sz cs rs T=>
  rcases h with⟨rfl,_⟩|⟨b',c,fz,rfl,_,_,_,hh,_⟩
  ·cases hk
  ·cases hk;exact lt_of_heap hh
 |many rs=>obtain⟨q,hq,hk⟩:=hk;exact R0.key_lt (h.1 q hq) hk
theorem Res.holds_of{w w':World}{r:Res}(h:r.holds w)(hk:∀b,r.has b->w'.heap[b]? = w.heap[b]?):r.holds w':=by
 cases r with
 |blk b' cs T=>show w'.heap[b']? = _;rw[hk b' rfl];exact h
 |obj b' o=>show w'.heap[b']? = _;rw[hk b' rfl];exact h
 |osl v n sz cs rs T=>
  rcases h with h|⟨b',c,fz,rfl,h1,h2,h3,hh,hf⟩
  ·exact .inl h
  ·exact .inr ⟨b',c,fz,rfl,h1,h2,h3,by rw[hk b' rfl];exact hh,hf⟩
 |many rs=>exact⟨fun q hq=>R0.holds_of (h.1 q hq) fun b hb=>hk b ⟨q,hq,hb⟩,h.2⟩
theorem R0.up_has{q:R0}{b:Nat}:q.up.has b↔q.key=some b:=by cases q<;>exact Iff.rfl
structure Fr (X:List Nat) (w0 w:World):Prop where
 os:w.os=w0.os
 tape:w.tape=w0.tape
 output:w.output=w0.output
 size:w0.heap.size<=w.heap.size
 block:∀k,k<w0.heap.size->k∉X->w.heap[k]? = w0.heap[k]?
theorem Fr.refl(X:List Nat)(w:World):Fr X w w:=⟨rfl,rfl,rfl,aJ _,fun _ _ _=>rfl⟩
theorem Fr.ext{w0 w:World}(h:Fr [] w0 w):Ext w0 w:=⟨h.os,h.tape,h.output,h.size,fun k hk=>h.block k hk (by simp)⟩
theorem Fr.of{w0 w:World}(h:Ext w0 w):Fr [] w0 w:=⟨h.os,h.tape,h.output,h.size,fun k hk _=>h.block k hk⟩
structure Bas where
 S0:Mem
 X:List Nat
 w0:World
def lkR:List Res->Nat->Option Res
 |[],_=>none|e::_,0=>some e|_::l,k+1=>lkR l k
def stR:List Res->Nat->Res->List Res
 |[],_,_=>[]|_::l,0,e=>e::l|x::l,k+1,e=>x::stR l k e
def rmR:List Res->Nat->List Res
 |[],_=>[]|_::l,0=>l|x::l,k+1=>x::rmR l k
theorem zbC:∀(l:List Res) (k:Nat),lkR l k=l[k]?
 |[],_=>by simp[lkR]
 |_::_,0=>by simp[lkR]
 |_::l,k+1=>by simp[lkR,zbC l k]
theorem ziM{e:Res}:∀{l:List Res} {k:Nat} {x:Res},lkR l k=some x->lkR (stR l k e) k=some e
 |[],_,_,h=>by cases h
 |_::_,0,_,_=>rfl|_::l,k+1,_,h=>ziM (l:=l) (k:=k) h
theorem zcJ{e:Res}:∀{l:List Res} {k j:Nat},j≠k->lkR (stR l k e) j=lkR l j
 |[],_,_,_=>rfl|_::_,0,0,h=>absurd rfl h|_::_,0,_+1,_=>rfl|_::_,_+1,0,_=>rfl|_::l,k+1,j+1,h=>zcJ (l:=l) (by omega)
theorem zwM:∀{l:List Res} {k j:Nat},lkR (rmR l k) j=if j<k then lkR l j else lkR l (j+1)
 |[],_,_=>by simp[rmR,lkR]
 |_::l,0,j=>by simp[rmR,lkR]
 |_::l,k+1,0=>by simp[rmR,lkR]
 |_::l,k+1,j+1=>by simp[rmR,lkR,zwM (l:=l) (k:=k) (j:=j)]
structure HS (B:Bas) (S:Mem) (w:World) (L:List Res):Prop where
 fr:Fr B.X B.w0 w
 sub:Sub S w
 keep:∀b,b<B.w0.heap.size->b∉B.X->S b=B.S0 b
 own:∀k r,lkR L k=some r->r.holds w
 old:∀k r b,lkR L k=some r->r.has b->(B.w0.heap.size<=b∨b∈B.X)/\S b=none
 inj:∀i j r s b,lkR L i=some r->lkR L j=some s->r.has b->s.has b->i=j
theorem HS.start{S:Mem}{w:World}(h:Sub S w):HS ⟨S,[],w⟩ S w []:=
 ⟨Fr.refl _ _,h,fun _ _ _=>rfl,fun _ _ h=>by simp[lkR]at h,fun _ _ _ h=>by simp[lkR]at h,fun _ _ _ _ _ h=>by simp[lkR]at h⟩
theorem HS.toExt{S0 S:Mem}{w0 w:World}{L:List Res}(H:HS ⟨S0,[],w0⟩ S w L):Ext w0 w:=H.fr.ext
def cut(S:Mem):Mem:=fun b=>nj (S b)
theorem yjL{S:Mem}{b:Nat}{o:Obj}(h:S b=some o)(hj:isJ o=false):cut S b=some o:=by unfold cut;rw[h];exact ymL hj
def NoJ(S:Mem):Prop:=∀b o,S b=some o->isJ o=false
theorem HS.gr{S0 S:Mem}{w0 w:World}{L:List Res}(H:HS ⟨S0,[],w0⟩ S w L):Mem.le (cut S) (gr S0 w0 w):=fun b o e=>by
 obtain⟨e,hj⟩:=nj_is e;unfold Go.Proofs.YtmbcolbbekbccaaGreat.gr;by_cases h:b<w0.heap.size
 ·rw[zH h];have h2:S b=S0 b:=H.keep b h (by simp);rw[<-h2];exact e
 ·rw[zG h,ypW (H.sub b o e) hj];exact ymL hj
section
variable {B:Bas}{S S':Mem}{w w':World}{L:List Res}
theorem HS.res_lt(H:HS B S w L){k b:Nat}{r:Res}(hk:lkR L k=some r)(hb:r.has b):b<w.heap.size:=Res.key_lt (H.own k r hk) hb
theorem Fr.more{X:List Nat}{a b c:World}(h:Fr X a b)(k:Ext b c):Fr X a c:=
 ⟨k.os.trans h.os,k.tape.trans h.tape,k.output.trans h.output,bC h.size k.size,fun i hi hx=>(k.block i (bK hi h.size)).trans (h.block i hi hx)⟩
theorem HS.ext(H:HS B S w L)(hx:Ext w w'):HS B S w' L:=
 ⟨H.fr.more hx,H.sub.ext hx,H.keep,fun k r hk=>Res.holds_of (H.own k r hk) fun b hb=>hx.block b (H.res_lt hk hb),H.old,H.inj⟩
theorem HS.call(H:HS B S w L)(hx:Ext w w'):HS B (Go.Proofs.YtmbcolbbekbccaaGreat.gr S w w') w' L:=
 ⟨H.fr.more hx,gr_sub H.sub hx,fun b hb hx=>by
   unfold Go.Proofs.YtmbcolbbekbccaaGreat.gr;rw[zH (bK hb H.fr.size)];exact H.keep b hb hx,
  fun k r hk=>Res.holds_of (H.own k r hk) fun b hb=>hx.block b (H.res_lt hk hb),
  fun k r b hk hb=>⟨(H.old k r b hk hb).1,by unfold Go.Proofs.YtmbcolbbekbccaaGreat.gr;rw[zH (H.res_lt hk hb)];exact(H.old k r b hk hb).2⟩,H.inj⟩
theorem HS.callF{F:Nat->Bool}(H:HS B S w L)(hx:Ext w w'):HS B (Go.Proofs.YtmbcolbbekbccaaGreat.gf S w F w') w' L:=
 ⟨H.fr.more hx,xfE H.sub hx,fun b hb hx=>by
   unfold Go.Proofs.YtmbcolbbekbccaaGreat.gf;rw[zH (bK hb H.fr.size)];exact H.keep b hb hx,
  fun k r hk=>Res.holds_of (H.own k r hk) fun b hb=>hx.block b (H.res_lt hk hb),
  fun k r b hk hb=>⟨(H.old k r b hk hb).1,by unfold Go.Proofs.YtmbcolbbekbccaaGreat.gf;rw[zH (H.res_lt hk hb)];exact(H.old k r b hk hb).2⟩,H.inj⟩
theorem HS.drew(H:HS B S w L):HS B S w.drew L:=H.ext (Ext.drew w)
theorem HS.push(H:HS B S w L)(hx:Ext w w'){r:Res}(hr:r.holds w')(hn:∀b,r.has b->w.heap.size<=b):HS B S w' (r::L):=by
 have H':=H.ext hx;refine⟨H'.fr,H'.sub,H'.keep,?_,?_,?_⟩
 ·intro k s hk;cases k with
  |zero=>cases hk;exact hr
  |succ k=>exact H'.own k s hk
 ·intro k s b hk hb;cases k with
  |zero=>cases hk;exact⟨.inl (bC H.fr.size (hn b hb)),H.sub.none (hn b hb)⟩
  |succ k=>exact H.old k s b hk hb
 ·intro i j s t b hi hj h1 h2;cases i with
  |zero=>
   cases j with
   |zero=>rfl|succ j=>cases hi;have a1:=hn b h1;have a2:=H.res_lt hj h2;omega
  |succ i=>
   cases j with
   |zero=>cases hj;have a1:=hn b h2;have a2:=H.res_lt hi h1;omega
   |succ j=>rw[H.inj i j s t b hi hj h1 h2]
theorem HS.upd(H:HS B S w L){k:Nat}{r r':Res}(hk:lkR L k=some r)(hsz:w.heap.size<=w'.heap.size)(hos:w'.os=w.os)(htp:w'.tape=w.tape)(hop:w'.output=w.output) (hb:∀i,i<w.heap.size->¬r.has i->w'.heap[i]? = w.heap[i]?) (hr:r'.holds w') (hkey:∀b,r'.has b->r.has b∨w.heap.size<=b):HS B S w' (stR L k r'):=by
 refine⟨⟨hos.trans H.fr.os,htp.trans H.fr.tape,hop.trans H.fr.output,bC H.fr.size hsz,?_⟩,?_,H.keep,?_,?_,?_⟩
 ·intro i hi hx;rw[hb i (bK hi H.fr.size) (fun e=>?_)]
  ·exact H.fr.block i hi hx
  ·rcases(H.old k r i hk e).1 with h|h
   ·omega
   ·exact hx h
 ·intro b o e;rw[hb b (H.sub.lt e) (fun e2=>?_)]
  ·exact H.sub b o e
  ·rw[(H.old k r b hk e2).2]at e;cases e
 ·intro j s hj;by_cases hjk:j=k
  ·subst hjk;rw[ziM hk]at hj;cases hj;exact hr
  ·rw[zcJ hjk]at hj;exact Res.holds_of (H.own j s hj) fun b hbs=>hb b (H.res_lt hj hbs) fun e=>hjk (H.inj j k s r b hj hk hbs e)
 ·intro j s b hj hbs;by_cases hjk:j=k
  ·subst hjk;rw[ziM hk]at hj;cases hj;rcases hkey b hbs with h|h
   ·exact H.old j r b hk h
   ·exact⟨.inl (bC H.fr.size h),H.sub.none h⟩
  ·rw[zcJ hjk]at hj;exact H.old j s b hj hbs
 ·intro i j s t b hi hj h1 h2;by_cases hik:i=k
  ·by_cases hjk:j=k
   ·omega
   ·subst hik;rw[ziM hk]at hi;cases hi;rw[zcJ hjk]at hj;rcases hkey b h1 with h|h
    ·exact absurd (H.inj j i t r b hj hk h2 h) hjk
    ·have:=H.res_lt hj h2;omega
  ·rw[zcJ hik]at hi;by_cases hjk:j=k
   ·subst hjk;rw[ziM hk]at hj;cases hj;rcases hkey b h2 with h|h
    ·exact absurd (H.inj i j s r b hi hk h1 h) hik
    ·have:=H.res_lt hi h1;omega
   ·rw[zcJ hjk]at hj;exact H.inj i j s t b hi hj h1 h2
theorem HS.rm(H:HS B S w L)(k:Nat):HS B S w (rmR L k):=by
 refine⟨H.fr,H.sub,H.keep,fun j r hj=>?_,fun j r b hj=>?_,fun i j r s b hi hj h1 h2=>?_⟩
 ·rw[zwM]at hj;split at hj
  ·exact H.own _ _ hj
  ·exact H.own _ _ hj
 ·rw[zwM]at hj;split at hj
  ·exact H.old _ _ _ hj
  ·exact H.old _ _ _ hj
 ·rw[zwM]at hi hj;split at hi<;>split at hj<;>have:=H.inj _ _ _ _ _ hi hj h1 h2<;>omega
def selR(L:List Res):List Nat->List Res
 |[]=>[]|j::js=>match lkR L j with
  |some r=>r::selR L js|none=>selR L js
def zuP(L:List Res):List Nat->Bool
 |[]=>true|j::js=>Nat.blt j L.length && !(js.any (Nat.beq j))&&zuP L js
theorem xeU{l:List Res}{k:Nat}:k<l.length->∃r,lkR l k=some r:=fun h=>⟨l[k],by rw[zbC];simp[h]⟩
theorem znG{L:List Res}:∀{js:List Nat},zuP L js=true->∀{i:Nat} {r:Res},lkR (selR L js) i=some r->∃j,js[i]? = some j/\lkR L j=some r
 |[],_,i,r,h=>by simp[selR,lkR]at h
 |j::js,hok,i,r,h=>by
  simp only[zuP,aL]at hok;have hj:j<L.length:=by have:=hok.1.1;rw[zhH]at this;simpa using this
  obtain⟨x,hx⟩:=xeU hj;simp only[selR,hx]at h;cases i with
  |zero=>simp only[lkR,Option.some.injEq]at h;subst h;exact⟨j,rfl,hx⟩|succ i=>simp only[lkR]at h;obtain⟨j',h1,h2⟩:=znG hok.2 h;exact⟨j',by simpa using h1,h2⟩
theorem zvS{L:List Res}:∀{js:List Nat},zuP L js=true->∀{i k j:Nat},js[i]? = some j->js[k]? = some j->i=k
 |[],_,i,k,j,h,_=>by simp at h
 |x::js,hok,i,k,j,hi,hk=>by
  simp only[zuP,aL,cK]at hok;have hx:∀y∈js,y≠x:=fun y hy e=>by have:=List.any_eq_false.1 hok.1.2 y hy;subst e;simp at this
  cases i with
  |zero=>
   cases k with
   |zero=>rfl|succ k=>simp at hi hk;subst hi;exact absurd rfl (hx _ (bH hk))
  |succ i=>
   cases k with
   |zero=>simp at hi hk;subst hk;exact absurd rfl (hx _ (bH hi))|succ k=>rw[zvS hok.2 (i:=i) (k:=k) (by simpa using hi) (by simpa using hk)]
theorem HS.sel(H:HS B S w L)(js:List Nat)(hok:zuP L js=true):HS B S w (selR L js):=by
 refine⟨H.fr,H.sub,H.keep,fun i r hi=>?_,fun i r b hi hb=>?_,fun i k r s b hi hk h1 h2=>?_⟩
 ·obtain⟨j,_,h⟩:=znG hok hi;exact H.own j r h
 ·obtain⟨j,_,h⟩:=znG hok hi;exact H.old j r b h hb
 ·obtain⟨j,e1,g1⟩:=znG hok hi;obtain⟨j',e2,g2⟩:=znG hok hk;obtain rfl:=H.inj j j' r s b g1 g2 h1 h2;exact zvS hok e1 e2
def zbR:List Res->List Nat
 |[]=>[]|r::l=>r.keys++zbR l
theorem zcQ{b:Nat}:∀{l:List Res},b∈zbR l↔∃k r,lkR l k=some r/\r.has b
 |[]=>by simp[zbR,lkR]
 |x::l=>by
  have ih:=zcQ (b:=b) (l:=l);unfold zbR;rw[cG,Res.mem_keys];constructor
  ·rintro(h|h)
   ·exact⟨0,x,rfl,h⟩
   ·obtain⟨k,r,h1,h2⟩:=ih.1 h;exact⟨k+1,r,h1,h2⟩
  ·rintro⟨k,r,h1,h2⟩;cases k with
   |zero=>simp only[lkR,Option.some.injEq]at h1;subst h1;exact .inl h2|succ k=>exact .inr (ih.2 ⟨k,r,h1,h2⟩)
theorem HS.keys_lt(H:HS B S w L){b:Nat}(h:w.heap.size<=b):∀c∈zbR L,c≠b:=fun c hc e=>by obtain⟨k,r,hk,hr⟩:=zcQ.1 hc;have:=H.res_lt hk hr;omega
theorem HS.adopt(H:HS B S w L){b:Nat}{l:LV}{T:TypeId}(hb:B.w0.heap.size<=b)(hS:S b=none)(hh:w.heap[b]? = some (.cells l.toArray T (0,0)))(hn:∀c∈zbR L,c≠b):HS B S w (.blk b l T::L):=by
 refine⟨H.fr,H.sub,H.keep,?_,?_,?_⟩
 ·intro k s hk;cases k with
  |zero=>cases hk;exact hh
  |succ k=>exact H.own k s hk
 ·intro k s c hk hc;cases k with
  |zero=>cases hk;cases hc;exact⟨.inl hb,hS⟩
  |succ k=>exact H.old k s c hk hc
 ·intro i j s t c hi hj h1 h2;cases i with
  |zero=>
   cases j with
   |zero=>rfl|succ j=>cases hi;cases h1;exact absurd rfl (hn b (zcQ.2 ⟨j,t,hj,h2⟩))
  |succ i=>
   cases j with
   |zero=>cases hj;cases h2;exact absurd rfl (hn b (zcQ.2 ⟨i,s,hi,h1⟩))
   |succ j=>rw[H.inj i j s t c hi hj h1 h2]
theorem HS.hand(H:HS B S w L)(js:List Nat)(hok:zuP L js=true):HS ⟨S,zbR (selR L js),w⟩ S w (selR L js):=by have h:=H.sel js hok;exact⟨Fr.refl _ _,h.sub,fun _ _ _=>rfl,h.own,fun k r b hk hb=>⟨.inr (zcQ.2 ⟨k,r,hk,hb⟩),(h.old k r b hk hb).2⟩,h.inj⟩
theorem HS.frame{S':Mem}{N:List Res}(H:HS B S w L)(js ks:List Nat)(hok:zuP L (js++ks)=true)(H':HS ⟨S,zbR (selR L js),w⟩ S' w' N):HS B S' w' (N++selR L ks)/\Mem.le S S':=by
 have hokj:zuP L js=true:=by
  clear H';induction js with
  |nil=>rfl|cons j js ih=>simp only[bO,zuP,aL,cK,List.any_append,Bool.or_eq_false_iff]at hok ⊢;exact⟨⟨hok.1.1,hok.1.2.1⟩,ih hok.2⟩
 have hokk:zuP L ks=true:=by
  clear H' hokj;induction js with
  |nil=>exact hok|cons j js ih=>simp only[bO,zuP,aL]at hok;exact ih hok.2
 have apart:∀{i k j:Nat},js[i]? = some j->ks[k]? = some j->False:=fun {i k j} hi hk=>by
  have h1:(js++ks)[i]? = some j:=by rw[aE (aC.1 hi).1];exact hi
  have h2:(js++ks)[js.length+k]? = some j:=by rw[aI (by omega)];simpa using hk
  have:=zvS hok h1 h2;have:=(aC.1 hi).1;omega
 have hfr:=H'.fr;have nokey:∀b,S b≠none->b∉zbR (selR L js):=fun b hb hm=>by obtain⟨i,s,h1,h2⟩:=zcQ.1 hm;obtain⟨j',_,h'⟩:=znG hokj h1;exact hb (H.old j' s b h' h2).2
 have hle:Mem.le S S':=fun b o e=>by rw[H'.keep b (H.sub.lt e) (nokey b (by rw[e];simp))];exact e
 -- a resource that stays
 have stay:∀{k:Nat} {r:Res},lkR (selR L ks) k=some r->∃j,lkR L j=some r/\∀b,r.has b->b<w.heap.size/\b∉zbR (selR L js):=fun {k r} hk=>by obtain⟨j,e,h⟩:=znG hokk hk;refine⟨j,h,fun b hb=>⟨H.res_lt h hb,fun hm=>?_⟩⟩;obtain⟨i,s,h1,h2⟩:=zcQ.1 hm;obtain⟨j',e',h'⟩:=znG hokj h1;obtain rfl:=H.inj j j' r s b h h' hb h2;exact apart e' e
 have gone:∀{b:Nat},b∈zbR (selR L js)->B.w0.heap.size<=b∨b∈B.X:=fun {b} hm=>by obtain⟨i,s,h1,h2⟩:=zcQ.1 hm;obtain⟨j',_,h'⟩:=znG hokj h1;exact(H.old j' s b h' h2).1
 have lkA:∀k,lkR (N++selR L ks) k=if k<N.length then lkR N k else lkR (selR L ks) (k-N.length):=fun k=>by rw[zbC,zbC,zbC,List.getElem?_append]
 refine⟨⟨⟨hfr.os.trans H.fr.os,hfr.tape.trans H.fr.tape,hfr.output.trans H.fr.output,bC H.fr.size hfr.size,fun i hi hx=>?_⟩,H'.sub,fun b hb hbx=>?_,fun k r hk=>?_,fun k r b hk hb=>?_,fun i j r s b hi hj h1 h2=>?_⟩,hle⟩
 ·rw[hfr.block i (bK hi H.fr.size) (fun hm=>?_)]
  ·exact H.fr.block i hi hx
  ·rcases gone hm with h|h
   ·omega
   ·exact hx h
 ·rw[H'.keep b (bK hb H.fr.size) (fun hm=>?_)]
  ·exact H.keep b hb hbx
  ·rcases gone hm with h|h
   ·omega
   ·exact hbx h
 ·rw[lkA]at hk;split at hk
  ·exact H'.own k r hk
  ·obtain⟨j,h,hs⟩:=stay hk;exact Res.holds_of (H.own j r h) fun b hb=>hfr.block b (hs b hb).1 (hs b hb).2
 ·rw[lkA]at hk;split at hk
  ·have h:=H'.old k r b hk hb;refine⟨?_,h.2⟩;rcases h.1 with h1|h1
   ·exact .inl (bC H.fr.size h1)
   ·exact gone h1
  ·obtain⟨j,h,hs⟩:=stay hk;exact⟨(H.old j r b h hb).1,by rw[H'.keep b (hs b hb).1 (hs b hb).2];exact(H.old j r b h hb).2⟩
 ·rw[lkA]at hi hj;split at hi<;>split at hj
  ·exact H'.inj i j r s b hi hj h1 h2
  ·obtain⟨j',h,hs⟩:=stay hj;rcases(H'.old i r b hi h1).1 with g|g
   ·have:=(hs b h2).1;have g':w.heap.size<=b:=g;omega
   ·exact absurd g (hs b h2).2
  ·obtain⟨j',h,hs⟩:=stay hi;rcases(H'.old j s b hj h2).1 with g|g
   ·have:=(hs b h1).1;have g':w.heap.size<=b:=g;omega
   ·exact absurd g (hs b h1).2
  ·have:=(H.sel ks hokk).inj _ _ r s b hi hj h1 h2;omega
theorem HS.fix(H:HS B S w L){k:Nat}{r:Res}(hk:lkR L k=some r){b:Nat}{o:Obj}(hb:r.has b)(ho:Fits o w.heap[b]?):∃S',Mem.le S S'/\S' b=some o/\HS B S' w (rmR L k):=by
 refine⟨fun i=>if i=b then some o else S i,fun i p e=>?_,by simp,?_⟩
 ·by_cases h:i=b
  ·subst h;rw[(H.old k r i hk hb).2]at e;cases e
  ·simp[h,e]
 ·have h':=H.rm k;have hold:=(H.old k r b hk hb).1;refine⟨h'.fr,fun i p e=>?_,fun i hi hx=>?_,h'.own,fun j s i hj hs=>?_,h'.inj⟩
  ·by_cases h:i=b
   ·subst h;simp at e;subst e;exact ho
   ·simp[h]at e;exact H.sub i p e
  ·have:i≠b:=fun e=>by
    subst e;rcases hold with h|h
    ·omega
    ·exact hx h
   simp[this,H.keep i hi hx]
  ·have h1:=h'.old j s i hj hs;refine⟨h1.1,?_⟩;have:i≠b:=fun e=>by subst e;rw[zwM]at hj;split at hj<;>have:=H.inj _ _ _ _ _ hj hk hs hb<;>omega
   simp[this,h1.2]
end
def SlS(S:Mem)(v:Value)(n sz:Nat)(cs:LV):Prop:=
 ((∃a,v = .slice a 0 0)/\n=0/\cs=[])∨∃b o c ds T fz,v=sl b o n c/\n<=c/\S b=some (.cells ds.toArray T fz)/\o+n*sz<=ds.length/\piece ds o (n*sz)=cs
theorem SlS.mono{S T:Mem}{v:Value}{n sz:Nat}{cs:LV}(h:SlS S v n sz cs)(hl:Mem.le S T):SlS T v n sz cs:=by
 rcases h with h|⟨b,o,c,ds,E,fz,h1,h2,h3,h4,h5⟩
 ·exact .inl h
 ·exact .inr ⟨b,o,c,ds,E,fz,h1,h2,hl _ _ h3,h4,h5⟩
def SlW(w:World)(v:Value)(n sz:Nat)(cs:LV):Prop:=
 ((∃a,v = .slice a 0 0)/\n=0/\cs=[])∨∃b o c ds T fz,v=sl b o n c/\n<=c/\w.heap[b]? = some (.cells ds.toArray T fz)/\o+n*sz<=ds.length/\piece ds o (n*sz)=cs
theorem SlS.w{S:Mem}{w:World}{v:Value}{n sz:Nat}{cs:LV}(h:SlS S v n sz cs)(hs:Sub S w):SlW w v n sz cs:=by
 rcases h with h|⟨b,o,c,ds,E,fz,h1,h2,h3,h4,h5⟩
 ·exact .inl h
 ·exact .inr ⟨b,o,c,ds,E,fz,h1,h2,hs _ _ h3,h4,h5⟩
theorem zfJ{l:LV}{o n:Nat}(h:o+n<=l.length):(piece l o n).length=n:=by rw[zaN];simp;omega
theorem SlW.len{w:World}{v:Value}{n sz:Nat}{cs:LV}(h:SlW w v n sz cs):cs.length=n*sz:=by
 rcases h with⟨_,rfl,rfl⟩|⟨b,o,c,ds,E,fz,h1,h2,h3,h4,rfl⟩
 ·simp
 ·exact zfJ h4
theorem SlS.len{S:Mem}{v:Value}{n sz:Nat}{cs:LV}(h:SlS S v n sz cs):cs.length=n*sz:=by
 rcases h with⟨_,rfl,rfl⟩|⟨b,o,c,ds,E,fz,h1,h2,h3,h4,rfl⟩
 ·simp
 ·exact zfJ h4
theorem Res.slW{w:World}{v:Value}{n sz:Nat}{cs rs:LV}{T:TypeId}(h:(Res.osl v n sz cs rs T).holds w):SlW w v n sz cs:=by
 rcases h with⟨h1,h2,h3,_⟩|⟨b,c,fz,rfl,h1,h2,h3,h4,_⟩
 ·exact .inl ⟨⟨_,h1⟩,h2,h3⟩
 ·refine .inr ⟨b,0,c,cs++rs,T,fz,rfl,h1,h4,by simp;omega,?_⟩;rw[zaN,dO,<-h2,List.take_left'];rfl
theorem SlS.nil(S:Mem)(sz:Nat):SlS S (.slice none 0 0) 0 sz []:=.inl ⟨⟨_,rfl⟩,rfl,rfl⟩
theorem HS.slW{B:Bas}{S:Mem}{w:World}{L:List Res}(H:HS B S w L){k:Nat}{v:Value}{n sz:Nat}{cs rs:LV}{T:TypeId}(hk:lkR L k=some (.osl v n sz cs rs T)):SlW w v n sz cs:=Res.slW (H.own k _ hk)
theorem HS.fixS{B:Bas}{S:Mem}{w:World}{L:List Res}(H:HS B S w L){k:Nat}{v:Value}{n sz:Nat}{cs rs:LV}{T:TypeId}(hk:lkR L k=some (.osl v n sz cs rs T)):∃S',Mem.le S S'/\SlS S' v n sz cs/\HS B S' w (rmR L k):=by
 have hh:=H.own k _ hk;rcases hh with⟨h1,h2,h3,_⟩|⟨b,c,fz,rfl,h1,h2,h3,h4,_⟩
 ·exact⟨S,Mem.le_refl S,.inl ⟨⟨_,h1⟩,h2,h3⟩,H.rm k⟩
 ·obtain⟨S',hle,hb,H'⟩:=H.fix hk (b:=b) (o:=.cells (cs++rs).toArray T fz) rfl h4;refine⟨S',hle,.inr ⟨b,0,c,cs++rs,T,fz,rfl,h1,hb,by simp;omega,?_⟩,H'⟩;rw[zaN,dO,<-h2,List.take_left'];rfl
theorem HS.jset{B:Bas}{S:Mem}{w w':World}{L:List Res}(H:HS B S w L)(hJ:NoJ B.S0){b n:Nat}{T:TypeId}(hb:S b=some (jm n T)){c:Array Value}{T':TypeId}(hc:c.size=n)(hw:w'.heap[b]? = some (.cells c T' (0,0)))(hsz:w.heap.size<=w'.heap.size)(hos:w'.os=w.os)(htp:w'.tape=w.tape)(hop:w'.output=w.output) (ho:∀i,i≠b->w'.heap[i]? = w.heap[i]?):HS B S w' L:=by
 refine⟨⟨hos.trans H.fr.os,htp.trans H.fr.tape,hop.trans H.fr.output,bC H.fr.size hsz,fun i hi hx=>?_⟩,fun i o e=>?_,H.keep,fun k r hk=>Res.holds_of (H.own k r hk) fun i hi=>ho i fun e=>?_,H.old,H.inj⟩
 ·rw[ho i (fun e=>?_)]
  ·exact H.fr.block i hi hx
  ·subst e;have:=hJ i _ ((H.keep i hi hx).symm.trans hb);cases this
 ·by_cases e2:i=b
  ·subst e2;rw[hb]at e;cases e;exact⟨c,T',hw,hc⟩
  ·rw[ho i e2];exact H.sub i o e
 ·subst e;have:=(H.old k r i hk hi).2;rw[hb]at this;cases this
theorem HS.fixB{B:Bas}{S:Mem}{w:World}{L:List Res}(H:HS B S w L){k b:Nat}{cs:LV}{T:TypeId}(hk:lkR L k=some (.blk b cs T)):∃S',Mem.le S S'/\S' b=some (.cells cs.toArray T (0,0))/\HS B S' w (rmR L k):=
 H.fix hk (b:=b) (o:=.cells cs.toArray T (0,0)) rfl (H.own k _ hk)
def subN:Value->Nat->Nat->Nat->Value
 |.slice a _ c,sz,lo,hi=>.slice (if c=lo then a else a.map (·.add (lo*sz))) (hi-lo) (c-lo)|v,_,_,_=>v
theorem zgE(l:LV)(o n p m:Nat)(h:p+m<=n):piece (piece l o n) p m=piece l (o+p) m:=by simp only[zaN];rw[iA,List.take_take,dP];congr 1;omega
theorem SlS.sub{S:Mem}{v:Value}{n sz:Nat}{cs:LV}(h:SlS S v n sz cs){lo hi:Nat}(h1:lo<=hi)(h2:hi<=n):SlS S (subN v sz lo hi) (hi-lo) sz (piece cs (lo*sz) ((hi-lo)*sz)):=by
 rcases h with⟨⟨a,rfl⟩,rfl,rfl⟩|⟨b,o,c,ds,T,fz,rfl,h3,h4,h5,rfl⟩
 ·obtain rfl:hi=0:=by omega
  obtain rfl:lo=0:=by omega
  exact .inl ⟨⟨a,by simp[subN]⟩,rfl,by simp[piece]⟩
 ·have hm:lo*sz+(hi-lo)*sz<=n*sz:=by rw[<-bI];exact cB sz (by omega)
  by_cases hc:c=lo
  ·obtain rfl:hi=lo:=by omega
   refine .inr ⟨b,o,c-hi,ds,T,fz,?_,by omega,h4,by simp;omega,?_⟩
   ·simp[subN,sl,hc]
   ·simp[piece]
  ·refine .inr ⟨b,o+lo*sz,c-lo,ds,T,fz,?_,by omega,h4,by omega,?_⟩
   ·simp[subN,sl,hc,zbX]
   ·rw[zgE _ _ _ _ _ hm]
def CellAt(S:Mem)(b o:Nat)(c:LV):Prop:=∃ds T fz,S b=some (.cells ds.toArray T fz)/\o+c.length<=ds.length/\piece ds o c.length=c
theorem CellAt.mono{S T:Mem}{b o:Nat}{c:LV}(h:CellAt S b o c)(hl:Mem.le S T):CellAt T b o c:=by obtain⟨ds,E,fz,h1,h2⟩:=h;exact⟨ds,E,fz,hl _ _ h1,h2⟩
theorem SlS.at{S:Mem}{v:Value}{n sz i:Nat}{cs:LV}(h:SlS S v n sz cs)(hi:i<n):∃b o c,v=sl b o n c/\CellAt S b (o+i*sz) (piece cs (i*sz) sz):=by
 rcases h with⟨_,rfl,rfl⟩|⟨b,o,c,ds,T,fz,rfl,h3,h4,h5,rfl⟩
 ·omega
 ·have hm:i*sz+sz<=n*sz:=by have:=cB sz (show i+1<=n by omega);rw[bI,dG]at this;exact this
  have hl:(piece (piece ds o (n*sz)) (i*sz) sz).length=sz:=zfJ (by rw[zfJ h5];exact hm);refine⟨b,o,c,rfl,ds,T,fz,h4,by rw[hl];omega,?_⟩;rw[hl,zgE _ _ _ _ _ hm]
end
section
section
variable {α β γ σ:Type}
theorem bnd{o:Option α}{f:α->Option β}{r:β}(h:o.bind f=some r):∃x,o=some x/\f x=some r:=by
 cases o with
 |none=>cases h
 |some x=>exact⟨x,rfl,h⟩
theorem zpG{c:Bool}{a b r:α}(h:(bif c then a else b)=r)(hc:c=true):a=r:=by subst hc;exact h
theorem zoW{c:Bool}{a b r:α}(h:(bif c then a else b)=r)(hc:c=false):b=r:=by subst hc;exact h
def jnO(o:α⊕β)(f:α->Option γ)(g:β->Option γ):Option γ:=match o with
 |.inl a=>f a|.inr b=>g b
def jn(o:Option (α⊕β))(f:α->Option γ)(g:β->Option γ):Option γ:=o.bind fun o=>jnO o f g
theorem yaZ{o:Option (α⊕β)}{f:α->Option γ}{g:β->Option γ}{r:γ}(h:jn o f g=some r):∃x,o=some x/\jnO x f g=some r:=bnd h
theorem jnO_l{a:α}{x:α⊕β}{f:α->Option γ}{g:β->Option γ}{r:Option γ}(h:jnO x f g=r)(hx:x = .inl a):f a=r:=by subst hx;exact h
def zoT(body:σ->Option (σ⊕β)):Nat->σ->Option β
 |0,_=>none|k+1,s=>jn (body s) (zoT body k) some
def FU:Nat:=1099511627776
def iter(body:σ->Option (σ⊕β))(s:σ):Option β:=zoT body FU s
theorem ziN{body:σ->Option (σ⊕β)}{k:Nat}{s s':σ}(h:body s=some (.inl s')):zoT body (k+1) s=zoT body k s':=by simp only[zoT,jn,h,eU,jnO]
theorem zmJ{body:σ->Option (σ⊕β)}{k:Nat}{s:σ}{b:β}(h:body s=some (.inr b)):zoT body (k+1) s=some b:=by simp only[zoT,jn,h,eU,jnO]
theorem yeJ{body:σ->Option (σ⊕β)}(I:σ->Prop)(m:σ->Nat)(G:β->Prop)(hr:∀s,I s->(∃s',body s=some (.inl s')/\I s'/\m s'<m s)∨∃b,body s=some (.inr b)/\G b):∀(k:Nat) (s:σ),I s->m s<k->∃b,zoT body k s=some b/\G b
 |0,_,_,h=>by omega
 |k+1,s,hI,hk=>by
  rcases hr s hI with⟨s',h1,h2,h3⟩|⟨b,h1,h2⟩
  ·rw[ziN h1];exact yeJ I m G hr k s' h2 (by omega)
  ·exact⟨b,zmJ h1,h2⟩
theorem yjM{body:σ->Option (σ⊕β)}(I:σ->Prop)(m:σ->Nat)(G:β->Prop)(s:σ)(h0:I s)(hm:m s<1099511627776)(hr:∀s,I s->(∃s',body s=some (.inl s')/\I s'/\m s'<m s)∨∃b,body s=some (.inr b)/\G b):∃b,iter body s=some b/\G b:=yeJ I m G hr FU s h0 hm
theorem xbX{body:σ->Option (σ⊕β)}(I:σ->Prop)(m:σ->Nat)(b:β)(s:σ)(h0:I s)(hm:m s<1099511627776)(hr:∀s,I s->(∃s',body s=some (.inl s')/\I s'/\m s'<m s)∨body s=some (.inr b)):
  iter body s=some b:=by
 obtain⟨b',h1,h2⟩:=yjM (body:=body) I m (fun x=>x=b) s h0 hm fun s hs=>(hr s hs).imp id fun h=>⟨b,h,rfl⟩;rw[h1,h2]
def idx(l:List α)(i:Int):Option α:=bif decide (i<0)then none else l[i.toNat]?
theorem zaD{l:List α}{i:Int}{x:α}(h:idx l i=some x):i=(i.toNat:Int)/\l[i.toNat]? = some x:=by
 unfold idx at h;by_cases hi:i<0
 ·simp[hi]at h
 ·simp only[hi,decide_false,zF]at h;exact⟨by omega,h⟩
theorem xaT{l:List α}(i:Nat):idx l (i:Int)=l[i]?:=by
 have h:¬((i:Int)<0):=by omega
 simp only[idx,h,decide_false,zF,Int.toNat_natCast]
theorem zbK{l:List α}{i:Int}{x:α}(h:idx l i=some x):i.toNat<l.length:=(aC.1 (zaD h).2).1
def sub3(l:List α)(lo hi:Int):Option (List α):=bif decide (0<=lo)&&decide (lo<=hi)&&decide (hi<=(l.length:Int))then some ((l.take hi.toNat).drop lo.toNat)else none
theorem zlC{l r:List α}{lo hi:Int}(h:sub3 l lo hi=some r):lo=(lo.toNat:Int)/\hi=(hi.toNat:Int)/\lo.toNat<=hi.toNat/\hi.toNat<=l.length/\(l.take hi.toNat).drop lo.toNat=r:=by
 unfold sub3 at h;by_cases hc:decide (0<=lo)&&decide (lo<=hi)&&decide (hi<=(l.length:Int))
 ·rw[hc]at h;simp only[aL,zD]at hc;simp only[zE,Option.some.injEq]at h;exact⟨by omega,by omega,by omega,by omega,h⟩
 ·simp only[dZ]at hc;rw[hc]at h;cases h
def subL(l:List α)(lo:Int):Option (List α):=bif decide (0<=lo)&&decide (lo<=(l.length:Int))then some (l.drop lo.toNat)else none
theorem zhX{l r:List α}{lo:Int}(h:subL l lo=some r):lo=(lo.toNat:Int)/\lo.toNat<=l.length/\l.drop lo.toNat=r:=by
 unfold subL at h;by_cases hc:decide (0<=lo)&&decide (lo<=(l.length:Int))
 ·rw[hc]at h;simp only[aL,zD]at hc;simp only[zE,Option.some.injEq]at h;exact⟨by omega,by omega,h⟩
 ·simp only[dZ]at hc;rw[hc]at h;cases h
def subH(l:List α)(hi:Int):Option (List α):=bif decide (0<=hi)&&decide (hi<=(l.length:Int))then some (l.take hi.toNat)else none
theorem zfA{l r:List α}{hi:Int}(h:subH l hi=some r):hi=(hi.toNat:Int)/\hi.toNat<=l.length/\l.take hi.toNat=r:=by
 unfold subH at h;by_cases hc:decide (0<=hi)&&decide (hi<=(l.length:Int))
 ·rw[hc]at h;simp only[aL,zD]at hc;simp only[zE,Option.some.injEq]at h;exact⟨by omega,by omega,h⟩
 ·simp only[dZ]at hc;rw[hc]at h;cases h
theorem ymG{l:List α}{n:Nat}(h:n<=l.length):subL l (n:Int)=some (l.drop n):=by unfold subL;rw[show(decide (0<=(n:Int))&&decide ((n:Int)<=(l.length:Int)))=true by simp;omega];rfl
theorem yaT{l:List α}{n:Nat}(h:n<=l.length):subH l (n:Int)=some (l.take n):=by unfold subH;rw[show(decide (0<=(n:Int))&&decide ((n:Int)<=(l.length:Int)))=true by simp;omega];rfl
theorem yzO{l:List α}{n m:Nat}(h:n<=m)(h2:m<=l.length):sub3 l (n:Int) (m:Int)=some ((l.take m).drop n):=by unfold sub3;rw[show(decide (0<=(n:Int))&&decide ((n:Int)<=(m:Int))&&decide ((m:Int)<=(l.length:Int)))=true by simp;omega];rfl
def LIM:Nat:=68719476736
def app(a b:List α):Option (List α):=bif decide (a.length+b.length<=LIM)then some (a++b)else none
theorem zeD{a b r:List α}(h:app a b=some r):a.length+b.length<=68719476736/\a++b=r:=by
 unfold app at h;by_cases hc:a.length+b.length<=LIM
 ·simp only[hc,decide_true,zE,Option.some.injEq]at h;exact⟨hc,h⟩
 ·simp only[hc,decide_false,zF]at h;cases h
theorem zfN{a b:List α}(h:a.length+b.length<=68719476736):app a b=some (a++b):=by have h':a.length+b.length<=LIM:=h;simp only[app,h',decide_true,zE]
def mkL(n:Int)(z:α):Option (List α):=bif decide (0<=n)&&decide (n<=(LIM:Int))then some (aN n.toNat z)else none
theorem zuV{n:Int}{z:α}{r:List α}(h:mkL n z=some r):0<=n/\n<=68719476736/\aN n.toNat z=r:=by
 unfold mkL at h;by_cases hc:decide (0<=n)&&decide (n<=(LIM:Int))
 ·rw[hc]at h;simp only[aL,zD]at hc;simp only[zE,Option.some.injEq]at h;exact⟨hc.1,hc.2,h⟩
 ·simp only[dZ]at hc;rw[hc]at h;cases h
def setL(l:List α)(i:Int)(x:α):Option (List α):=bif decide (0<=i)&&decide (i<(l.length:Int))then some (l.set i.toNat x)else none
theorem zkF{l r:List α}{i:Int}{x:α}(h:setL l i x=some r):i=(i.toNat:Int)/\i.toNat<l.length/\l.set i.toNat x=r:=by
 unfold setL at h;by_cases hc:decide (0<=i)&&decide (i<(l.length:Int))
 ·rw[hc]at h;simp only[aL,zD]at hc;simp only[zE,Option.some.injEq]at h;exact⟨by omega,by omega,h⟩
 ·simp only[dZ]at hc;rw[hc]at h;cases h
def chk(c:Bool):Option Unit:=bif c then some ()else none
theorem zcH{c:Bool}{u:Unit}(h:chk c=some u):c=true:=by cases c with
 |true=>rfl|false=>cases h
end
abbrev w64(x:Int):Int:=IntKind.i64.wrap x
def i8(x:Int):UInt8:=UInt8.ofNat (x%256).toNat
def i16(x:Int):UInt16:=UInt16.ofNat (x%65536).toNat
def i32(x:Int):UInt32:=UInt32.ofNat (x%4294967296).toNat
def i64(x:Int):UInt64:=UInt64.ofNat (x%18446744073709551616).toNat
theorem zrD(x:Int):IntKind.u8.wrap x=((i8 x).toNat:Int):=by
 have e:IntKind.u8.wrap x=x%256:=by simp[IntKind.wrap,IntKind.signed,IntKind.bits]
 rw[e];simp[i8];omega
theorem yuL(x:Int):IntKind.u16.wrap x=((i16 x).toNat:Int):=by
 have e:IntKind.u16.wrap x=x%65536:=by simp[IntKind.wrap,IntKind.signed,IntKind.bits]
 rw[e];simp[i16];omega
theorem zbT(x:Int):IntKind.u32.wrap x=((i32 x).toNat:Int):=by
 have e:IntKind.u32.wrap x=x%4294967296:=by simp[IntKind.wrap,IntKind.signed,IntKind.bits]
 rw[e];simp[i32];omega
theorem zcI(x:Int):IntKind.u64.wrap x=((i64 x).toNat:Int):=by
 have e:IntKind.u64.wrap x=x%18446744073709551616:=by simp[IntKind.wrap,IntKind.signed,IntKind.bits]
 rw[e];simp[i64];omega
theorem yzE{x:Int}(h:0<=x)(h2:x<256):((i8 x).toNat:Int)=x:=by simp[i8];omega
theorem ynQ{x:Int}(h:0<=x)(h2:x<4294967296):((i32 x).toNat:Int)=x:=by simp[i32];omega
theorem yqZ{x:Int}(h:0<=x)(h2:x<18446744073709551616):((i64 x).toNat:Int)=x:=by simp[i64];omega
theorem xfR(b:UInt8):i8 (b.toNat:Int)=b:=by apply UInt8.toNat.inj;have:=yzE (x:=(b.toNat:Int)) (by omega) (by have:=b.toNat_lt;omega);omega
theorem xfO(a:UInt8)(b:Int)(h:0<=b):cM (a.toNat:Int) b=((i8 (cM (a.toNat:Int) b)).toNat:Int):=by
 have h1:=a.toNat_lt;have h2:0<=cM (a.toNat:Int) b:=Int.tmod_nonneg _ (by omega);have h3:cM (a.toNat:Int) b<=(a.toNat:Int):=by obtain⟨n,rfl⟩:=Int.eq_ofNat_of_zero_le h;rw[<-Int.ofNat_tmod];have:=Nat.mod_le a.toNat n;omega
 rw[yzE h2 (by omega)]
theorem i8_and(a b:UInt8):bits .and .u8 (a.toNat:Int) (b.toNat:Int)=((a&&&b).toNat:Int):=andN rfl a.toNat_lt b.toNat_lt
theorem i8_or(a b:UInt8):bits .or .u8 (a.toNat:Int) (b.toNat:Int)=((a|||b).toNat:Int):=orN rfl a.toNat_lt b.toNat_lt
theorem yeQ(a b:UInt8):bits .xor .u8 (a.toNat:Int) (b.toNat:Int)=((a^^^b).toNat:Int):=xorN rfl a.toNat_lt b.toNat_lt
theorem zkY(a b:UInt32):bits .and .u32 (a.toNat:Int) (b.toNat:Int)=((a&&&b).toNat:Int):=andN rfl a.toNat_lt b.toNat_lt
theorem zzL(a b:UInt32):bits .or .u32 (a.toNat:Int) (b.toNat:Int)=((a|||b).toNat:Int):=orN rfl a.toNat_lt b.toNat_lt
theorem zdN(a b:UInt32):bits .xor .u32 (a.toNat:Int) (b.toNat:Int)=((a^^^b).toNat:Int):=xorN rfl a.toNat_lt b.toNat_lt
theorem zlW(a b:UInt64):bits .and .u64 (a.toNat:Int) (b.toNat:Int)=((a&&&b).toNat:Int):=andN rfl a.toNat_lt b.toNat_lt
theorem yxQ(a b:UInt64):bits .or .u64 (a.toNat:Int) (b.toNat:Int)=((a|||b).toNat:Int):=orN rfl a.toNat_lt b.toNat_lt
theorem xdX(a b:UInt64):bits .xor .u64 (a.toNat:Int) (b.toNat:Int)=((a^^^b).toNat:Int):=xorN rfl a.toNat_lt b.toNat_lt
theorem ymW(a:UInt8):w64 (a.toNat:Int)=(a.toNat:Int):=by have:=a.toNat_lt;exact wr64 (by omega) (by omega)
def shlI(k:IntKind)(a b:Int):Int:=k.wrap (a*2^(min b.toNat k.bits))
def shrI(k:IntKind)(a b:Int):Int:=a.fdiv (2^(min b.toNat k.bits))
theorem zsR{a:Nat}(k:Nat):(a:Int).fdiv (2^k)=((a/2^k:Nat):Int):=by rw[show((2:Int)^k)=((2^k:Nat):Int) by rw[Int.natCast_pow];rfl];exact(Int.ofNat_fdiv a (2^k)).symm
theorem ywX(a:UInt8)(b:Int):Int.fdiv (a.toNat:Int) (2^(min b.toNat IntKind.u8.bits))=((i8 (shrI .u8 (a.toNat:Int) b)).toNat:Int):=by have h1:=a.toNat_lt;unfold shrI;rw[zsR,yzE (iD _) (by have:=dQ a.toNat (2^(min b.toNat IntKind.u8.bits));omega)]
theorem i8_shl(a:UInt8)(b:Int):IntKind.u8.wrap ((a.toNat:Int)*2^(min b.toNat IntKind.u8.bits))=((i8 (shlI .u8 (a.toNat:Int) b)).toNat:Int):=by have e:shlI .u8 (a.toNat:Int) b=IntKind.u8.wrap ((a.toNat:Int)*2^(min b.toNat IntKind.u8.bits)):=rfl;rw[<-e,e,zrD,xfR]
theorem zmB(a:UInt32)(b:Int):Int.fdiv (a.toNat:Int) (2^(min b.toNat IntKind.u32.bits))=((i32 (shrI .u32 (a.toNat:Int) b)).toNat:Int):=by have h1:=a.toNat_lt;unfold shrI;rw[zsR,ynQ (iD _) (by have:=dQ a.toNat (2^(min b.toNat IntKind.u32.bits));omega)]
theorem zkS(a:UInt64)(b:Int):Int.fdiv (a.toNat:Int) (2^(min b.toNat IntKind.u64.bits))=((i64 (shrI .u64 (a.toNat:Int) b)).toNat:Int):=by have h1:=a.toNat_lt;unfold shrI;rw[zsR,yqZ (iD _) (by have:=dQ a.toNat (2^(min b.toNat IntKind.u64.bits));omega)]
theorem xdP(b:UInt32):i32 (b.toNat:Int)=b:=by apply UInt32.toNat.inj;have:=ynQ (x:=(b.toNat:Int)) (by omega) (by have:=b.toNat_lt;omega);omega
theorem yzD(b:UInt64):i64 (b.toNat:Int)=b:=by apply UInt64.toNat.inj;have:=yqZ (x:=(b.toNat:Int)) (by omega) (by have:=b.toNat_lt;omega);omega
theorem ztI(a:UInt32)(b:Int):IntKind.u32.wrap ((a.toNat:Int)*2^(min b.toNat IntKind.u32.bits))=((i32 (shlI .u32 (a.toNat:Int) b)).toNat:Int):=by have e:shlI .u32 (a.toNat:Int) b=IntKind.u32.wrap ((a.toNat:Int)*2^(min b.toNat IntKind.u32.bits)):=rfl;rw[<-e,e,zbT,xdP]
theorem ygE(a:UInt64)(b:Int):IntKind.u64.wrap ((a.toNat:Int)*2^(min b.toNat IntKind.u64.bits))=((i64 (shlI .u64 (a.toNat:Int) b)).toNat:Int):=by have e:shlI .u64 (a.toNat:Int) b=IntKind.u64.wrap ((a.toNat:Int)*2^(min b.toNat IntKind.u64.bits)):=rfl;rw[<-e,e,zcI,yzD]
theorem not_true{b:Bool}(h:b=true):(!b)=false:=by rw[h];rfl
theorem not_false{b:Bool}(h:b=false):(!b)=true:=by rw[h];rfl
class Rp (α:Type) where
 sz:Nat
 rep:Mem->LV->α->Prop
 len:∀{S c x},rep S c x->c.length=sz
 mono:∀{S T c x},rep S c x->Mem.le S T->rep T c x
 one:∀{S c x},rep S c x->∀v∈c,v.oneCell'=true
def RL{α:Type}[Rp α](S:Mem):LV->List α->Prop
 |cs,[]=>cs=[]|cs,x::xs=>∃c d,cs=c++d/\Rp.rep S c x/\RL S d xs
section
variable {α β:Type}[Rp α][Rp β]{S T:Mem}
theorem RL.mono:∀{xs:List α} {cs:LV},RL S cs xs->Mem.le S T->RL T cs xs
 |[],_,h,_=>h|_::_,_,⟨c,d,e,h1,h2⟩,hl=>⟨c,d,e,Rp.mono h1 hl,RL.mono h2 hl⟩
theorem RL.len:∀{xs:List α} {cs:LV},RL S cs xs->cs.length=xs.length*Rp.sz α
 |[],_,h=>by rw[show _=[]from h];simp
 |x::xs,_,⟨c,d,e,h1,h2⟩=>by rw[e,aF,Rp.len h1,RL.len h2,List.length_cons,bI];omega
theorem RL.one:∀{xs:List α} {cs:LV},RL S cs xs->∀v∈cs,v.oneCell'=true
 |[],_,h,v,hv=>by rw[show _=[]from h]at hv;cases hv
 |x::xs,_,⟨c,d,e,h1,h2⟩,v,hv=>by
  rw[e]at hv;rcases cG.1 hv with h|h
  ·exact Rp.one h1 v h
  ·exact RL.one h2 v h
theorem RL.nil:RL S [] ([]:List α):=rfl
theorem RL.cons{c d:LV}{x:α}{xs:List α}(h1:Rp.rep S c x)(h2:RL S d xs):RL S (c++d) (x::xs):=⟨c,d,rfl,h1,h2⟩
theorem RL.append:∀{xs:List α} {cs ds:LV} {ys:List α},RL S cs xs->RL S ds ys->RL S (cs++ds) (xs++ys)
 |[],cs,_,_,h,k=>by rw[show cs=[]from h];exact k
 |x::xs,_,ds,ys,⟨c,d,e,h1,h2⟩,k=>by rw[e,List.append_assoc];exact⟨c,d++ds,rfl,h1,RL.append h2 k⟩
theorem RL.get:∀{xs:List α} {cs:LV} {i:Nat} {x:α},RL S cs xs->xs[i]? = some x->Rp.rep S (piece cs (i*Rp.sz α) (Rp.sz α)) x
 |[],_,_,_,_,h=>by simp at h
 |y::xs,_,0,x,⟨c,d,e,h1,h2⟩,h=>by simp at h;subst h;rw[e,zaN,eN,dO,<-Rp.len h1,List.take_left];exact h1
 |y::xs,_,i+1,x,⟨c,d,e,h1,h2⟩,h=>by have ih:=RL.get h2 (i:=i) (by simpa using h);rw[e,zaN,bI,dG,jC,<-Rp.len h1,<-dP,List.drop_left,Rp.len h1,<-zaN];exact ih
theorem RL.take:∀{xs:List α} {cs:LV} (n:Nat),RL S cs xs->RL S (cs.take (n*Rp.sz α)) (xs.take n)
 |[],cs,n,h=>by rw[show cs=[]from h];simp[RL]
 |x::xs,_,0,_=>by simp[RL]
 |x::xs,_,n+1,⟨c,d,e,h1,h2⟩=>by refine⟨c,d.take (n*Rp.sz α),?_,h1,RL.take n h2⟩;rw[e,bI,dG,jC,<-Rp.len h1,List.take_length_add_append]
theorem RL.drop:∀{xs:List α} {cs:LV} (n:Nat),RL S cs xs->RL S (cs.drop (n*Rp.sz α)) (xs.drop n)
 |[],cs,n,h=>by rw[show cs=[]from h];simp[RL]
 |x::xs,cs,0,h=>by simpa using h
 |x::xs,_,n+1,⟨c,d,e,h1,h2⟩=>by have ih:=RL.drop n h2;rw[e,bI,dG,jC,<-Rp.len h1,List.drop_length_add_append,Rp.len h1];exact ih
theorem RL.sub{xs:List α}{cs:LV}{lo hi:Nat}(h:RL S cs xs)(_h1:lo<=hi):RL S (piece cs (lo*Rp.sz α) ((hi-lo)*Rp.sz α)) ((xs.take hi).drop lo):=by have:=RL.drop lo (RL.take hi h);rw[iA]at this;rw[zaN,Nat.sub_mul];exact this
theorem RL.set:∀{xs:List α} {cs c:LV} {i:Nat} {x:α},RL S cs xs->Rp.rep S c x->i<xs.length->RL S (lay cs (i*Rp.sz α) c) (xs.set i x)
 |[],_,_,_,_,_,_,h=>by simp at h
 |y::xs,_,c',0,x,⟨c,d,e,h1,h2⟩,hx,_=>by
  refine⟨c',d,?_,hx,h2⟩;have hl:c.length=c'.length:=by rw[Rp.len h1,Rp.len hx]
  rw[e,eN];apply aW;intro j;rw[zcW];by_cases hj:j<c'.length
  ·rw[zH (by simp;omega),aE hj];simp
  ·rw[zG (by omega),aI (by omega),aI (by omega),hl]
 |y::xs,_,c',i+1,x,⟨c,d,e,h1,h2⟩,hx,hi=>by
  refine⟨c,lay d (i*Rp.sz α) c',?_,h1,RL.set h2 hx (by simpa using hi)⟩;rw[e];apply aW;intro j;have hs:(i+1)*Rp.sz α=c.length+i*Rp.sz α:=by rw[bI,dG,Rp.len h1];omega
  rw[zcW,hs];by_cases hj:j<c.length
  ·rw[zG (by omega),aE hj,aE hj]
  ·rw[aI (by omega),aI (by omega),zcW,aF];by_cases hc:i*Rp.sz α<=j-c.length/\j-c.length<i*Rp.sz α+c'.length/\j-c.length<d.length
   ·rw[zH (by omega),zH hc];congr 1;omega
   ·rw[zG (by omega),zG hc]
theorem RL.replicate{c:LV}{x:α}(h:Rp.rep S c x):∀n,RL S (aN n c).flatten (aN n x)
 |0=>rfl|n+1=>⟨c,_,by simp[List.replicate_succ],h,RL.replicate h n⟩
def RdS{α:Type}[Rp α](S:Mem)(v:Value)(xs:List α):Prop:=∃cs,SlS S v xs.length (Rp.sz α) cs/\RL S cs xs
theorem RdS.mono{v:Value}{xs:List α}(h:RdS S v xs)(hl:Mem.le S T):RdS T v xs:=by obtain⟨cs,h1,h2⟩:=h;exact⟨cs,h1.mono hl,h2.mono hl⟩
theorem RdS.nil:RdS S (.slice none 0 0) ([]:List α):=⟨[],SlS.nil S _,rfl⟩
theorem RdS.sub{v:Value}{xs:List α}(h:RdS S v xs){lo hi:Nat}(h1:lo<=hi)(h2:hi<=xs.length):RdS S (subN v (Rp.sz α) lo hi) ((xs.take hi).drop lo):=by
 obtain⟨cs,k1,k2⟩:=h;refine⟨_,?_,k2.sub h1⟩;have hl:((xs.take hi).drop lo).length=hi-lo:=by simp;omega
 rw[hl];exact k1.sub h1 h2
theorem RdS.subLH{v:Value}{xs r:List α}{lo hi:Int}{sz:Nat}(h:RdS S v xs)(e:sub3 xs lo hi=some r)(hs:Rp.sz α=sz:=by rfl):RdS S (subN v sz lo.toNat hi.toNat) r:=by obtain⟨_,_,h1,h2,h3⟩:=zlC e;subst hs;rw[<-h3];exact h.sub h1 h2
theorem RdS.subL{v:Value}{xs r:List α}{lo:Int}{sz:Nat}(h:RdS S v xs)(e:Go.Proofs.YtmbcolbbekbccaaGreat.subL xs lo=some r)(hs:Rp.sz α=sz:=by rfl):RdS S (subN v sz lo.toNat xs.length) r:=by obtain⟨_,h1,h3⟩:=zhX e;subst hs;have:=h.sub h1 (aJ _);rw[List.take_length,h3]at this;exact this
theorem RdS.subH{v:Value}{xs r:List α}{hi:Int}{sz:Nat}(h:RdS S v xs)(e:Go.Proofs.YtmbcolbbekbccaaGreat.subH xs hi=some r)(hs:Rp.sz α=sz:=by rfl):RdS S (subN v sz 0 hi.toNat) r:=by obtain⟨_,h1,h3⟩:=zfA e;subst hs;have:=h.sub (Nat.zero_le _) h1;rw[dO,h3]at this;exact this
theorem yqD{cs c:LV}{xs r:List α}{i:Int}{x:α}{sz:Nat}(h:RL S cs xs)(hx:Rp.rep S c x)(e:setL xs i x=some r)(hs:Rp.sz α=sz:=by rfl):RL S (lay cs (i.toNat*sz) c) r:=by obtain⟨_,h1,h2⟩:=zkF e;subst hs;rw[<-h2];exact h.set hx h1
theorem RdS.get{v:Value}{xs:List α}{i:Nat}{x:α}(h:RdS S v xs)(hx:xs[i]? = some x):∃b o n c cs,v=sl b o n c/\i<n/\CellAt S b (o+i*Rp.sz α) cs/\Rp.rep S cs x:=by obtain⟨ds,k1,k2⟩:=h;have hi:=(aC.1 hx).1;obtain⟨b,o,c,e,hc⟩:=k1.at hi;exact⟨b,o,_,c,_,e,hi,hc,k2.get hx⟩
theorem RdS.oneCell{v:Value}{xs:List α}(h:RdS S v xs):v.oneCell'=true:=by obtain⟨cs,k1,_⟩:=h;rcases k1 with⟨⟨_,rfl⟩,_⟩|⟨b,o,c,ds,T,fz,rfl,_⟩<;>rfl
theorem RdS.cells{v:Value}{xs:List α}(h:RdS S v xs):v.cells.toList=[v]:=by obtain⟨cs,k1,_⟩:=h;rcases k1 with⟨⟨_,rfl⟩,_⟩|⟨b,o,c,ds,T,fz,rfl,_⟩<;>rfl
end
section
variable {α β:Type}[Rp α][Rp β]{S:Mem}
instance (priority:=low) instRpList:Rp (List α) where
 sz:=1
 rep S c xs:=∃v,c=[v]/\RdS S v xs
 len:=fun⟨_,e,_⟩=>by rw[e];rfl
 mono:=fun⟨v,e,h⟩ hl=>⟨v,e,h.mono hl⟩
 one:=fun⟨v,e,h⟩ u hu=>by rw[e,aY]at hu;rw[hu];exact h.oneCell
instance ymI:Rp Bs where
 sz:=1
 rep _ c x:=c=[str x]
 len:=fun e=>by rw[e];rfl
 mono:=fun e _=>e
 one:=fun e u hu=>by rw[e,aY]at hu;rw[hu];rfl
instance instRpInt:Rp Int where
 sz:=1
 rep _ c x:=c=[.int .i64 x]
 len:=fun e=>by rw[e];rfl
 mono:=fun e _=>e
 one:=fun e u hu=>by rw[e,aY]at hu;rw[hu];rfl
instance instRpU8:Rp UInt8 where
 sz:=1
 rep _ c x:=c=[.int .u8 (x.toNat:Int)]
 len:=fun e=>by rw[e];rfl
 mono:=fun e _=>e
 one:=fun e u hu=>by rw[e,aY]at hu;rw[hu];rfl
instance xeO:Rp UInt32 where
 sz:=1
 rep _ c x:=c=[.int .u32 (x.toNat:Int)]
 len:=fun e=>by rw[e];rfl
 mono:=fun e _=>e
 one:=fun e u hu=>by rw[e,aY]at hu;rw[hu];rfl
instance instRpU64:Rp UInt64 where
 sz:=1
 rep _ c x:=c=[.int .u64 (x.toNat:Int)]
 len:=fun e=>by rw[e];rfl
 mono:=fun e _=>e
 one:=fun e u hu=>by rw[e,aY]at hu;rw[hu];rfl
instance ykL:Rp Bool where
 sz:=1
 rep _ c x:=c=[.bool x]
 len:=fun e=>by rw[e];rfl
 mono:=fun e _=>e
 one:=fun e u hu=>by rw[e,aY]at hu;rw[hu];rfl
instance ykQ:Rp Unit where
 sz:=0
 rep _ c _:=c=[]
 len:=fun e=>by rw[e];rfl
 mono:=fun e _=>e
 one:=fun e u hu=>by rw[e]at hu;cases hu
instance ylQ:Rp (α×β) where
 sz:=Rp.sz α+Rp.sz β
 rep S c x:=∃c1 c2,c=c1++c2/\Rp.rep S c1 x.1/\Rp.rep S c2 x.2
 len:=fun⟨c1,c2,e,h1,h2⟩=>by rw[e,aF,Rp.len h1,Rp.len h2]
 mono:=fun⟨c1,c2,e,h1,h2⟩ hl=>⟨c1,c2,e,Rp.mono h1 hl,Rp.mono h2 hl⟩
 one:=fun⟨c1,c2,e,h1,h2⟩ u hu=>by
  rw[e]at hu;rcases cG.1 hu with h|h
  ·exact Rp.one h1 u h
  ·exact Rp.one h2 u h
theorem rpU8{x:UInt8}:Rp.rep S [.int .u8 (x.toNat:Int)] x:=rfl
theorem yeY{x:UInt8}{c:LV}(h:c=[.int .u8 (x.toNat:Int)]):Rp.rep S c x:=h
theorem yxB{x:UInt32}{c:LV}(h:c=[.int .u32 (x.toNat:Int)]):Rp.rep S c x:=h
theorem yxA{x:UInt64}{c:LV}(h:c=[.int .u64 (x.toNat:Int)]):Rp.rep S c x:=h
theorem zsS{x:UInt32}:Rp.rep S [.int .u32 (x.toNat:Int)] x:=rfl
theorem zyM{x:UInt64}:Rp.rep S [.int .u64 (x.toNat:Int)] x:=rfl
theorem rpB{x:Bool}:Rp.rep S [.bool x] x:=rfl
theorem rpT{x:Bs}:Rp.rep S [str x] x:=rfl
theorem rpP{c1 c2:LV}{x:α}{y:β}(h1:Rp.rep S c1 x)(h2:Rp.rep S c2 y):Rp.rep S (c1++c2) (x,y):=⟨c1,c2,rfl,h1,h2⟩
theorem rpL{v:Value}{xs:List α}(h:RdS S v xs):Rp.rep (α:=List α) (self:=instRpList) S [v] xs:=⟨v,rfl,h⟩
theorem elU8{c:LV}{x:UInt8}(h:Rp.rep S c x):c=[.int .u8 (x.toNat:Int)]:=h
theorem zjN{c:LV}{x:UInt32}(h:Rp.rep S c x):c=[.int .u32 (x.toNat:Int)]:=h
theorem zuS{c:LV}{x:UInt64}(h:Rp.rep S c x):c=[.int .u64 (x.toNat:Int)]:=h
theorem elB{c:LV}{x:Bool}(h:Rp.rep S c x):c=[.bool x]:=h
theorem elT{c:LV}{x:Bs}(h:Rp.rep S c x):c=[str x]:=h
theorem elP{c:LV}{x:α×β}(h:Rp.rep S c x):∃c1 c2,c=c1++c2/\Rp.rep S c1 x.1/\Rp.rep S c2 x.2:=h
theorem elL{c:LV}{xs:List α}(h:Rp.rep (α:=List α) (self:=instRpList) S c xs):∃v,c=[v]/\RdS S v xs:=h
theorem RL.is_u8s:∀{xs:Bs} {cs:LV},RL S cs xs->cs=u8s xs
 |[],_,h=>h|x::xs,_,⟨c,d,e,h1,h2⟩=>by rw[e,elU8 h1,RL.is_u8s h2];rfl
theorem RL.of_u8s:∀(xs:Bs),RL S (u8s xs) xs
 |[]=>rfl|x::xs=>⟨_,_,rfl,rpU8,RL.of_u8s xs⟩
end
end
section
variable {P:Program}{ops:Array Oper}{Q:Exit->Act->World->Prop}{rest:List Oper}{n:Nat}{m:FM}{w:World}{d:Nat}{ty:TypeId}{pos:String}{aft:Array Edge}{x:Operand}{nh:Nat}{Φ:zeV}{W:World}{vs:Nat->Gv}{Fin:Act->Prop}{i:Nat}
theorem mvT{l:Bs}(hx:evO n m x=str l)(hr:wpList P ops Q rest (fr n ((d,str l)::m)) w):wpList P ops Q (⟨some d,.move x,ty,pos,aft,none⟩::rest) (fr n m) w:=p_mv hx hr
theorem asT{l:Bs}(hx:evO n m x=str l)(hr:wpList P ops Q rest (fr n ((d,str l)::m)) w):wpList P ops Q (⟨some d,.assign x,ty,pos,aft,none⟩::rest) (fr n m) w:=p_as hx hr
theorem hsn{B:Bas}{S:Mem}{w:World}{L L':List Res}(H:HS B S w L)(e:L=L':=by ((try dsimp only[stR,rmR,selR,lkR])<;>exact rfl)):HS B S w L':=e▸H
theorem zcY{α:Type}{P:Program}{Q:Exit->Act->World->Prop}{n:Nat}{m:FM}{w:World}{c:Operand}{x y:Code}{t:Bool}{a b r:α}(h:(bif t then a else b)=r)(hc:evO n m c = .bool t)(ht:a=r->t=true->x.wp P Q (fr n m) w)(hf:b=r->t=false->y.wp P Q (fr n m) w):(Code.cond c x y).wp P Q (fr n m) w:=
 zcR hc (fun e=>ht (zpG h e) e) fun e=>hf (zoW h e) e
theorem bn{α β:Type}{o:Option α}{f:α->Option β}{r:β}{G:Prop}(h:o.bind f=some r)(k:∀x,o=some x->f x=some r->G):G:=by obtain⟨x,h1,h2⟩:=bnd h;exact k x h1 h2
theorem HS.xe{B:Bas}{S:Mem}{w:World}{L:List Res}{v:Value}{Ψ:Ending->World->Prop}(H:HS B S w L)(k:∀w',HS B S w' L->Ψ (.returned v) w'):∀e w',(e = .returned v/\Ext w w')->Ψ e w':=by rintro _ w' ⟨rfl,hx⟩;exact k w' (H.ext hx)
theorem HS.ye{α:Type}[Rp α]{B:Bas}{S:Mem}{w:World}{L:List Res}{xs:List α}{Ψ:Ending->World->Prop}(H:HS B S w L)(k:∀w' v S',Mem.le S S'->HS B S' w' L->RdS S' v xs->Ψ (.returned v) w'):∀e w',(Ext w w'/\∃v,e = .returned v/\RdS (Go.Proofs.YtmbcolbbekbccaaGreat.gr S w w') v xs)->Ψ e w':=by rintro _ w' ⟨hx,v,rfl,g⟩;exact k w' v _ (ycX H.sub) (H.call hx) g
theorem HS.yv{α:Type}[Rp α]{B:Bas}{S:Mem}{w:World}{L:List Res}{x:α}{Ψ:Ending->World->Prop}(H:HS B S w L)(k:∀w' v S',Mem.le S S'->HS B S' w' L->Rp.rep S' [v] x->Ψ (.returned v) w'):∀e w',(Ext w w'/\∃v,e = .returned v/\Rp.rep (Go.Proofs.YtmbcolbbekbccaaGreat.gr S w w') [v] x)->Ψ e w':=by rintro _ w' ⟨hx,v,rfl,g⟩;exact k w' v _ (ycX H.sub) (H.call hx) g
end
end Go.Proofs.YtmbcolbbekbccaaGreat
