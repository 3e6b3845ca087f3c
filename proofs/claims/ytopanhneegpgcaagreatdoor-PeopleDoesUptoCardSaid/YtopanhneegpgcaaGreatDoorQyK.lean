/- Parts of one proof. Conditions: as each theorem says. -/
import Derived.RangeFuncNested
import Derived.RangeFuncBound
import Derived.RangeFuncCalls
import Derived.RangeFuncLeaves
import Derived.RangeFuncFrom
import Derived.Shelf.Abstract
import Derived.Shelf.RegionOpen
import Derived.WalkKit
import Derived.OwnWalkIn
import Derived.TacticsInMore
import Derived.LoopNIn
import Derived.LoopIn
import Derived.Maps.RangeRun
import Derived.Shelf.SlicesE.DeleteFunc
import Derived.Ground.SlgfProg
import Derived.Test.YtopanhneegpgcaaGreatDoorProg
import Derived.Lib.SliceRun
import Derived.Test.YtopanhneegpgcaaGreatDoorQyJ
open Array renaming getElem?_eq_some_iff->aT,getElem?_setIfInBounds_ne->eP,replicate_succ->gV,replicate_zero->gW
open Bool renaming and_eq_true->aI,not_eq_true'->bM
open List renaming append_toArray->iF,cons_append->bS,eq_nil_of_length_eq_zero->aW,getElem?_cons_zero->fL,le_antisymm->fJ,length->cZ,length_append->aD,length_cons->aQ,length_map->aE,length_nil->cN,length_replicate->fY,lt_irrefl->eT,lt_trans->fD,map_append->cC,map_cons->bF,map_id->fI,map_map->cW,mem_cons->aN,mem_cons_of_mem->aM,mem_cons_self->aO,mem_map->aY,nil_append->bP,nodup_cons->eL,not_lt->fX,pairwise_cons->bD,push_toArray->iP,replicate->bI,size_toArray->eB
open Nat renaming le_refl->aL,reduceAdd->jB,reduceSub->jC,zero_le->bG
open Go.Proofs.Tryz renaming prog->aA
open Go.Lib renaming compareBytes->Pb
open Go.Result renaming andThen->xh
open Go.Proofs.Tryz renaming func212->F8,func274->H7,isAgg0->B0,isAgg22->B8,isAgg25->D1,isAgg3->B4,isAgg4->A1,isAgg9->A5,sizeOf0->B1,sizeOf22->B9,sizeOf25->D2,sizeOf3->B5,sizeOf4->A3,sizeOf9->A6,underlying0->A9,underlying22->B7,underlying25->C9,underlying3->B3,underlying4->A0,zeroValue0->B2,zeroValue22->C0,zeroValue25->D3,zeroValue3->B6,zeroValue4->A4
open Go.Proofs.Tryz
namespace Go.Proofs.YtopanhneegpgcaaGreatDoor.Am
open Go Go.Proofs Go.RowKit Go.Sort Go.Shelf
attribute [local go_sem] Oper.semAt_some
section
variable {F:Fence}{n:Nat}{P:Program}(w:World){ops:Array Oper}{rest:List Oper}{o:Oper}{a:Act}{Q:Exit->Act->World->Prop}
theorem xeY(i:o.guard=none)(m:Operand)(t k e:TypeId)(d:o.op=Op.range t m)(j:P.underlying t=some (.map k e))(b ck:Nat)(es:Array MapEntry)(l:a.eval m = .map (some b))(p:w.heap[b]? = some (.map es ck)) (q:wpListIn F n P ops Q rest (a.put o.dst (.pointer (some ⟨w.heap.size,0,none⟩))) (w.alloc (.mapIter (some b) ck #[] ck))):wpListIn F n P ops Q (o::rest) a w:=by refine wpListIn_plain i fun r g=>?_;have f:=run_range_map (P:=P) w t k e b es ck j p;unfold Oper.wpIn;refine⟨by simp[Oper.about,d],?_⟩;rw[Oper.semAt_plain F _ _ (by rw[d];intro c h;cases h)];simp[execOp,d,l,f,xh];exact g _ _ q
theorem um(E:o.guard=none)(it:Operand)(g:o.op=Op.next it false)(b r ck:Nat)(es:List MapEntry)(seen:Array Nat) (hit:a.eval it = .pointer (some ⟨r,0,none⟩)) (q:w.heap[r]? = some (.mapIter (some b) ck seen ck)) (p:w.heap[b]? = some (.map es.toArray ck)) (l:∀x∈es,x.born<ck) (s:(es.map (·.born)).Nodup) (i:(∀e∈es,e.born∈seen.toList)->wpListIn F n P ops Q rest (a.put o.dst (.tuple #[.bool false])) w) (j:∀(e:MapEntry) (w':World),e∈es->e.born∉seen.toList->w.grownBy w' (some r)->w'.heap[r]? = some (.mapIter (some b) ck (seen.push e.born) ck)->w'.heap[b]? = some (.map es.toArray ck)->(Instr.entry (.pointer (some ⟨r,0,none⟩))).run P w' = .ok (.tuple #[e.key,e.val]) w'->wpListIn F n P ops Q rest (a.put o.dst (.tuple #[.bool true,e.key,e.val])) w'):
  wpListIn F n P ops Q (o::rest) a w:=by
 refine wpListIn_plain E fun K m=>?_;unfold Oper.wpIn;refine⟨by simp[Oper.about,g],?_⟩;rw[Oper.semAt_plain F _ _ (by rw[g];intro c t;cases t)];have B:∀e,e∈(leftOf es.toArray seen).toList↔e∈es/\e.born∉seen.toList:=fun e=>by simp[leftOf]
 rcases run_next_at (P:=P) w o.type r b ck ck seen es.toArray ck q p (by simpa using l) (aL _)with⟨H,f⟩|⟨e,u,h,I,f⟩
 ·simp[execOp,g,hit,f,xh];refine m _ _ (i fun e u=>Classical.byContradiction fun J=>?_);have:=(B e).2 ⟨u,J⟩;rw[Array.eq_empty_of_size_eq_zero H]at this;simp at this
 ·simp[execOp,g,hit,f,xh];have v:=(B e).1 u;have y:b≠r:=fun e=>by subst e;rw[q]at p;cases p
  have z:r<w.heap.size:=(aT.1 q).1;have d:h.heap=w.heap/\h.os=w.os/\h.tape=w.tape/\h.output=w.output:=by rcases I with rfl|rfl<;>exact⟨rfl,rfl,rfl,rfl⟩
  have C:(ChangeMaps.setBlock h r (.mapIter (some b) ck (seen.push e.born) ck)).heap[r]? = some (.mapIter (some b) ck (seen.push e.born) ck):=by show(h.heap.setIfInBounds r _)[r]? = _;rw[d.1,Array.getElem?_setIfInBounds_self_of_lt z]
  have D:(ChangeMaps.setBlock h r (.mapIter (some b) ck (seen.push e.born) ck)).heap[b]? = some (.map es.toArray ck):=by show(h.heap.setIfInBounds r _)[b]? = _;rw[d.1,eP (fun e=>y e.symm)];exact p
  refine m _ _ (j e _ v.1 v.2 ⟨d.2.1,d.2.2.1,d.2.2.2,by simp[ChangeMaps.setBlock,d.1],fun k L A=>?_⟩ C D (run_entry_at _ r b ck seen es.toArray ck e C D (by simpa using v.1) (by simpa using s)));show(h.heap.setIfInBounds r _)[k]? = _;rw[d.1,eP (fun e=>A (by rw[e]))]
end
theorem XK{c:Type}[DecidableEq c]:∀{l m:List c},l.Nodup->(∀x∈l,x∈m)->l.length<=m.length
 |[],_,_,_=>bG _|x::l,m,b,d=>by have b:=eL.1 b;have f:=d x aO;have:=XK (m:=m.erase x) b.2 fun y g=>(List.mem_erase_of_ne (fun e=>b.1 (by rw[<-e];exact g))).2 (d y (aM _ g));rw[List.length_erase_of_mem f]at this;have h:0<m.length:=List.length_pos_of_mem f;simp only[aQ];omega
theorem ywG{c:Type}[DecidableEq c]:∀{l m:List c},l.Nodup->m.Nodup->(∀x,x∈l↔x∈m)->l.Perm m
 |[],m,_,_,h=>by
  cases m with
  |nil=>exact .refl _|cons y m=>exact absurd ((h y).2 aO) (by simp)
 |x::l,m,g,d,h=>by
  have b:=eL.1 g;have i:x∈m:=(h x).1 aO;refine(List.Perm.cons x (ywG b.2 (d.erase x) fun y=>?_)).trans (List.perm_cons_erase i).symm;rw[d.mem_erase_iff];constructor
  ·exact fun f=>⟨fun e=>b.1 (by rw[<-e];exact f),(h y).1 (aM _ f)⟩
  ·rintro⟨j,k⟩;exact(aN.1 ((h y).2 k)).resolve_left j
abbrev ba(x:Bs×Bs):Value:=.agg #[str x.1,str x.2]
def ay(r n:Nat)(W:World):Nat:=match W.heap[r]? with
 |some (.mapIter _ _ seen _)=>n-seen.size|_=>0
structure vm (es vis:List MapEntry) (ss:kD):Prop where
 nd:(vis.map (·.born)).Nodup
 sub:∀e∈vis,e∈es
 keys:ss.map ba=vis.map (·.key)
theorem vm.len{es b:List MapEntry}{c:kD}(h:vm es b c):c.length=b.length:=by simpa using congrArg cZ h.keys
theorem vm.lt{es b:List MapEntry}{d:kD}(h:vm es b d){e:MapEntry}(f:e∈es)(g:e.born∉b.map (·.born)):b.length<es.length:=by
 have:=XK (l:=e.born::b.map (·.born)) (m:=es.map (·.born)) (eL.2 ⟨g,h.nd⟩) fun x c=>by
  rcases aN.1 c with rfl|c
  ·exact aY.2 ⟨e,f,rfl⟩
  ·obtain⟨y,i,rfl⟩:=aY.1 c;exact aY.2 ⟨y,h.sub y i,rfl⟩
 simp only[aQ,aE]at this;omega
theorem vm.all{es b:List MapEntry}{i:kD}(h:vm es b i)(c:(es.map (·.born)).Nodup)(m:∀e∈es,e.born∈b.map (·.born)):(i.map ba).Perm (es.map (·.key)):=by
 rw[h.keys]
 have p:(b.map (·.born)).Perm (es.map (·.born)):=ywG h.nd c fun x=>by
  constructor
  ·intro f;obtain⟨y,g,rfl⟩:=aY.1 f;exact aY.2 ⟨y,h.sub y g,rfl⟩
  ·intro f;obtain⟨y,g,rfl⟩:=aY.1 f;exact m y g
 have q:∀e∈es,(es.find? fun x=>x.born==e.born)=some e:=fun e d=>find_born e es c d;have j:∀l:List MapEntry,(∀e∈l,e∈es)->l.map (·.key)=(l.map (·.born)).map fun k=>((es.find? fun x=>x.born==k).map (·.key)).getD undef:=fun l r=>by rw[cW];refine List.map_congr_left fun e d=>?_;simp only[Function.comp,q e (r e d),Option.map_some,Option.getD_some]
 rw[j b h.sub,j es fun e d=>d];exact p.map _
set_option maxRecDepth 100000 in
set_option maxHeartbeats 2000000 in
theorem cy(F:Fence)(n:Nat)(hf:F.fn 211)(L:F.round=none)(hn:1<=n)(l Bm b ck:Nat)(es:List MapEntry)(J Jx:kD->World->Prop)(W:World)(M:AbidesFrom W.heap.size J) (hY:∀pre x N,J pre N->pre.length<es.length->YieldAt F (n-1) aA l #[ba x] N fun e s=>(e = .returned (.bool true)/\J (pre++[x]) s/\KeepsWalks N s)∨(e = .returned (.bool false)/\Jx (pre++[x]) s)) (hm:W.cell? ⟨Bm,0,none⟩=some (.map (some b))) (O:W.heap[b]? = some (.map es.toArray ck)) (z:∀x∈es,x.born<ck) (A:(es.map (·.born)).Nodup) (hk:∀e∈es,∃x,e.key=ba x) (h0:J [] W):
  CallsIn F n aA 211 #[.func (.yield l) #[] #[],.pointer (some ⟨Bm,0,none⟩)] W fun e s=>(∃v,e = .returned v)/\((∃c:kD,(c.map ba).Perm (es.map (·.key))/\J c s)∨(∃pre,True/\Jx pre s)):=by
 refine callsIn_of_wp func211 rfl hf ?_ L;simp only[Tryz.ntmps211,eB,aQ,cN,jB,jC,gV,gW,iP,iF,bP,bS];have R:b<W.heap.size:=(aT.1 O).1;have S:Tryz.prog.underlying 126=some (.map 75 157):=by kernel_rfl
 gi_wp2_with (first
  |(gi_at_range;refine xeY _ rfl _ 126 75 157 rfl S b ck es.toArray rfl O ?_)
  |gi_in)
 go_frame
 gi_loopw [3] (fun _ wr=>∃(d:List MapEntry) (c:kD),wr.heap[W.heap.size]? = some (.mapIter (some b) ck (d.map (·.born)).toArray ck)/\wr.heap[b]? = some (.map es.toArray ck)/\vm es d c/\J c wr)
  (fun _ wr=>ay W.heap.size es.length wr)
 case atStart=>exact⟨[],[],World.alloc_heap_new W _,(Below.heap_alloc W _ b R).trans O,⟨.nil,fun _ h=>(by cases h),rfl⟩,M [] W _ none h0 (World.grownBy_alloc W _ none) (fun r e=>by cases e)⟩
 case round=>
  obtain⟨d,c,T,h2,t,B⟩:=hrel
  gi_wp2_with (first
   |(gi_at_next;refine um _ rfl _ rfl b W.heap.size ck es _ rfl T h2 z A ?_ ?_)
   |gi_in)
  ·intro C
   gi_wp2
   go_end0
   exact⟨⟨_,rfl⟩,.inl ⟨c,t.all A (by simpa using C),B⟩⟩
  ·intro e u U f V I K D;have f:e.born∉d.map (·.born):=by simpa using f
   have X:J c u:=M c wr u (some W.heap.size) B V (fun r e=>by cases e;exact⟨aL _,_,T,rfl⟩);have Y:=t.lt U f;obtain⟨x,hx⟩:=hk e U;rw[hx]at D ⊢;simp only[ba]at D ⊢
   gi_wp2
   obtain⟨i,j⟩:∃i,u.alloc (.cells #[.string ⟨x.1.toArray⟩,.string ⟨x.2.toArray⟩] 75)=i:=⟨_,rfl⟩;have k:u.grownBy i none:=by rw[<-j];exact World.grownBy_alloc u _ none
   have m:J c i:=M c u i none X k (fun r e=>by cases e);have I:=(k.block _ (aT.1 I).1 (by simp)).trans I;have K:=(k.block _ (aT.1 K).1 (by simp)).trans K;rw[j];clear j;obtain⟨fn,tmps,assign,body,g,hR⟩:=hY c x i m (by rw[t.len];exact Y);have g:(Instr.yield l #[.agg #[.string ⟨x.1.toArray⟩,.string ⟨x.2.toArray⟩]]).run aA i=_:=g;rw[g]
   gi_wp2
   refine hR.mono ?_;rintro e' W3 (⟨rfl,m,E⟩|⟨rfl,H⟩)
   ·gi_wp2
    have h5:=E.same _ _ I rfl;have h6:=E.same _ _ K rfl
    go_roundw
    case rel=>
     refine⟨d++[e],c++[x],?_,h6,⟨?_,fun y g=>?_,?_⟩,m⟩
     ·rw[h5];simp only[cC,bF,List.map_nil]
     ·rw[cC,List.nodup_append];refine⟨t.nd,by simp,fun p hp q Z=>?_⟩;have Z:q=e.born:=by simpa using Z
      subst Z;exact fun e'=>f (by rw[<-e'];exact hp)
     ·rcases List.mem_append.1 g with g|g
      ·exact t.sub y g
      ·rw[List.mem_singleton.1 g];exact U
     ·rw[cC,cC,t.keys];simp[hx]
    case measure=>unfold ay;rw[h5,T];simp only[eB,aE,aD,aQ,cN];omega
   ·gi_wp2
    refine bodyPost_ret (results_none rfl _ _ _) rfl ?_;exact⟨⟨_,rfl⟩,.inr ⟨c++[x],trivial,H⟩⟩
theorem Si(F:Fence)(n:Nat)(hf:F.fn 211)(f:F.round=none)(j:1<=n)(c b ck:Nat)(es:List MapEntry)(w:World)(hB:c<w.heap.size) (k:w.cell? ⟨c,0,none⟩=some (.map (some b))) (h:w.heap[b]? = some (.map es.toArray ck)) (d:∀x∈es,x.born<ck) (g:(es.map (·.born)).Nodup) (hk:∀e∈es,∃x,e.key=ba x):
  SeqStopsK F n aA 211 #[.pointer (some ⟨c,0,none⟩)] (fun x=>#[ba x]) KeepsWalks (fun m=>(m.map ba).Perm (es.map (·.key))) (fun _=>True) es.length w:=fun l J q W i r _ s t=>
 cy F n hf f j l c b ck es J q W r s ((i.cell (p:=⟨c,0,none⟩) hB).trans k) ((i.block b (aT.1 h).1).trans h) d g hk t
theorem Ti{P:Program}{F:Fence}{n:Nat}{α:Type}{g:Operand}{ps:Array Tmp}{assign body:Code}{Q:Exit->Act->World->Prop}{a:Act}{w:World}(hro:F.round=none)(h1:1<=n){gf:Nat}{lb:Array Value}(hg:a.eval g = .func (.func gf) #[] lb)(hFg:F.fn gf)(eg:∀args w,(callFunc gf args).run P w = .ok (.enter gf args) w) {encs:α->Array Value} {S:List α->Prop} {N:Nat} (hseq:SeqStopsK F (n-1) P gf lb encs KeepsWalks S (fun _=>True) N w) (hps:∀x,(encs x).size=ps.size) (I:List α->World->Prop) (hI:OwnFrom w.heap.size I) (h0:I [] w) (cel:α->Array Value) (t:TypeId) (a₁:α->Nat->Act) (hassign:∀(l:Nat) (x:α) (W:World) (K:Act->World->Prop),(∀W',W.grownBy W' none->W'.heap[W.heap.size]? = some (.cells (cel x) t (0,0))->K (a₁ x W.heap.size) W') ->
   assign.wpIn (F.inRound l) (n-1-1) P (Exit.then K (fun _ _ _=>False)) { tmps:=(ps.zip (encs x)).foldl (fun t (p,v)=>t.setIfInBounds p v) a.tmps,defers:=[] } W)
  (E:∀(l:Nat) (pre:List α) (x:α) (b:Nat) (W:World),I pre W->pre.length<N->W.heap[b]? = some (.cells (cel x) t (0,0))->w.heap.size<=b->body.wpIn (F.inRound l) (n-1-1) P (fun e _ Y=>e = .normal/\KeepsOthers W Y/\KeepsWalks W Y/\I (pre++[x]) Y) (a₁ x b) W)
  (H:∀(D:Nat) (Z:List α) (W:World),w.heap.size<=D->S Z->I Z W->W.heap[D]? = some (.deferred (some []))->Q .normal { a with defers:={ target:=.collected D,args:=#[] }::a.defers } W):(Code.rangeFunc g ps assign body).wpIn F n P Q a w:=by
 refine wpIn_rangeFunc ?_;intro fn hfn;rw[hro];obtain⟨rec,c⟩:∃rec:LoopState->Option Code->Loop,rec=fun st pe=>{ state:=st,pending:=pe,fn,tmps:=a.tmps,params:=ps,assign,body,defers:=w.heap.size }:=⟨_,rfl⟩;obtain⟨q,j⟩:∃q,(w.alloc (.deferred (some []))).alloc (.loop (rec .ready none))=q:=⟨_,rfl⟩;have hL1:q.heap[w.heap.size+1]? = some (.loop (rec .ready none)):=by rw[<-j];have:=World.alloc_heap_new (w.alloc (.deferred (some []))) (.loop (rec .ready none));rwa[World.size_alloc]at this
 have hK1:q.heap[w.heap.size]? = some (.deferred (some [])):=by rw[<-j];exact(Below.heap_alloc _ _ _ (by simp)).trans (World.alloc_heap_new w _)
 have hI1:I [] q:=by rw[<-j];exact hI.alloc _ (hI.alloc _ h0)
 have hb1:Below w.heap.size w q:=by rw[<-j];exact((Below.refl _ w).alloc (aL _) _).alloc (by simp) _
 refine⟨w.heap.size+1,[{ target:=.collected w.heap.size,args:=#[] }],q,{ target:=.fn (.func gf) lb,args:=#[.func (.yield (w.heap.size+1)) #[] #[]] },q,gf,
  #[.func (.yield (w.heap.size+1)) #[] #[]]++lb,q,?_,?_,?_,?_,fun _=>h1,?_⟩
 ·rw[<-j,c];exact run_enterLoop_outer _ _ _ _ _
 ·simp only[resolve,hg];simp[go_sem]
 ·intro f' R;simp[Target.leads]at R;subst R;exact hFg
 ·simp[invoke,go_sem,eg]
 ·refine(hseq (w.heap.size+1)
   (fun pre W=>I pre W/\W.heap[w.heap.size+1]? = some (.loop (rec .ready none))/\W.heap[w.heap.size]? = some (.deferred (some [])))
   (fun _ _=>False) q hb1
   (fun s A B row T d L=>⟨hI s A B row T.1 d (fun r e=>by obtain⟨hB,o,ho,hw⟩:=L r e;exact⟨by rw[<-j]at hB;simp at hB;omega,o,ho,Obj.not_cells_of_walk hw⟩),(grownBy_keeps d (fun r e=>(L r e).2) T.2.1 rfl).trans T.2.1,(grownBy_keeps d (fun r e=>(L r e).2) T.2.2 rfl).trans T.2.2⟩)
   (fun _ _ _ _ h _ _=>h) ?_ ⟨hI1,hL1,hK1⟩).mono ?_
  ·rintro pre x W ⟨hi,M,hk⟩ U;have hlt:w.heap.size+1<W.heap.size:=(aT.1 M).1;have hy:=run_yield (P:=P) (args:=encs x) M (by rw[c];exact hps x);rw[c]at hy;refine⟨fn,_,assign,body,hy,roundIn_of_wpIn hfn (hassign _ x W _ fun W' d hc'=>?_)⟩;have J:W'.heap[w.heap.size+1]? = some (.loop (rec .ready none)):=(d.block _ hlt (by simp)).trans M;have hk':W'.heap[w.heap.size]? = some (.deferred (some [])):=(d.block _ (by omega) (by simp)).trans hk;have hi':I pre W':=hI pre W W' none hi d (fun r e=>by cases e);have hsz':=d.size;refine⟨_,run_beginRound J (by rw[c]),?_⟩;have V:w.heap.size+1<W'.heap.size:=by omega
   have hl2:(W'.putObj (w.heap.size+1) (.loop { rec .ready none with state:=.busy })).heap[w.heap.size+1]? = some (.loop { rec .ready none with state:=.busy }):=World.putObj_heap_same V;have hk2:(W'.putObj (w.heap.size+1) (.loop { rec .ready none with state:=.busy })).heap[w.heap.size]? = some (.deferred (some [])):=(World.putObj_heap_other (by omega)).trans hk';have hc2:(W'.putObj (w.heap.size+1) (.loop { rec .ready none with state:=.busy })).heap[W.heap.size]? = some (.cells (cel x) t (0,0)):=(World.putObj_heap_other (by omega)).trans hc';refine wpIn_mono (E _ pre x W.heap.size _ (hI.putObj _ hi' (by omega) J rfl) U hc2 (by omega)) ?_;rintro e a3 Y ⟨rfl,X,hw3,hi3⟩;have y:=X.same _ _ hl2 rfl;have L:=run_endRound (P:=P) none y;rw[c]at L;have hw0:KeepsWalks W W':=KeepsWalks.of_grownBy d (fun k o e=>by cases e);refine⟨_,_,L,.inl ⟨rfl,⟨hI.putObj _ hi3 (by omega) y rfl,?_,(World.putObj_heap_other (by omega)).trans (X.same _ _ hk2 rfl)⟩,((hw0.trans (KeepsWalks.putObj _ J rfl)).trans hw3).trans (KeepsWalks.putObj _ y rfl)⟩⟩;rw[c];exact World.putObj_heap_same (aT.1 y).1
  ·rintro e W2 ⟨⟨v,rfl⟩,(⟨Z,hS,hi,M,hk⟩|⟨pre,_,hf⟩)⟩
   ·exact⟨none,_,by have:=run_endLoop (P:=P) M (by rw[c];simp);rw[c]at this;exact this,H _ Z _ (aL _) hS (hI.putObj _ hi (by omega) M rfl) ((World.putObj_heap_other (by omega)).trans hk)⟩
   ·exact hf.elim
theorem ytO{W d:World}{b:Nat}{e:TypeId}{size:Nat}{v:Value}{k:Nat}{xs:LV}{row:Option Nat}(h:W.ownsRow b e size v k xs)(i:W.grownBy d row) (j:∀r,row=some r->∃o:Obj,W.heap[r]? = some o/\o.isCells=false):d.ownsRow b e size v k xs:=by
 refine h.kept i ?_;rcases h.2 with⟨rfl,_⟩|⟨g,l,m,rfl,_,c,_⟩
 ·exact .inl rfl
 ·refine .inr fun p=>?_;obtain⟨o,f,q⟩:=j g (by simpa[Value.ownBlock]using p.symm);rw[c]at f;cases f;cases q
theorem EV{W:World}{b:Nat}{e:TypeId}{size:Nat}{v:Value}{k:Nat}{xs:LV}(h:W.ownsRow b e size v k xs){g:Nat}(f:some g=v.ownBlock):b<=g/\∃c,W.heap[g]? = some (.cells c e (0,0)):=by
 rcases h.2 with⟨rfl,_⟩|⟨i,j,c,rfl,l,d,_⟩
 ·simp[Value.ownBlock]at f
 ·have:g=i:=by simpa[Value.ownBlock]using f
  subst this;exact⟨l,c,d⟩
theorem wm{W b:World}{k:Nat}{c:Array Value}{t:TypeId}{fz:Nat×Nat}{row:Option Nat}(h:W.heap[k]? = some (.cells c t fz))(f:W.grownBy b row) (g:∀r,row=some r->∃o:Obj,W.heap[r]? = some o/\o.isCells=false):b.heap[k]? = some (.cells c t fz):=by refine(f.block k (aT.1 h).1 fun e=>?_).trans h;obtain⟨o,d,i⟩:=g k e.symm;rw[h]at d;cases d;cases i
theorem YK{W:World}{B:Nat}{v:Value}{t:TypeId}(h:W.heap[B]? = some (.cells #[v] t (0,0))):W.cell? ⟨B,0,none⟩=some v/\W.frozen? ⟨B,0,none⟩=false:=by constructor<;>simp[World.cell?,World.frozen?,h]
theorem dy{W:World}{B:Nat}{v:Value}{t:TypeId}(v':Value)(h:W.heap[B]? = some (.cells #[v] t (0,0))):(W.setCell ⟨B,0,none⟩ v').heap[B]? = some (.cells #[v'] t (0,0)):=by obtain⟨b,c⟩:=aT.1 h;show(W.heap.modify B _)[B]? = _;rw[Array.getElem?_eq_getElem (by rw[Array.size_modify];exact b),Array.getElem_modify_self,c];rfl
theorem yyB{W:World}{b:Nat}{x y:Value}{t:TypeId}{fz:Nat×Nat}(h:W.heap[b]? = some (.cells #[x,y] t fz)):∀j u,[x,y][j]? = some u->W.cell? ((⟨b,0,none⟩:Addr).add j)=some u:=by
 intro j u c
 match j,c with
 |0,c=>simp only[fL,Option.some.injEq]at c;subst c;show W.cell? ⟨b,0+0,none⟩=_;unfold World.cell?;simp only[h];rfl
 |1,c=>simp only[List.getElem?_cons_succ,fL,Option.some.injEq]at c;subst c;show W.cell? ⟨b,0+1,none⟩=_;unfold World.cell?;simp only[h];rfl
def mq(x y:Bs×Bs):Bool:=Op.bytesLess x.1 y.1||(x.1==y.1&&Op.bytesLess x.2 y.2)
def qe(x y:Bs×Bs):Bool:=!(mq y x)
theorem xeF{x y:Bs×Bs}:mq x y=true↔x.1<y.1∨(x.1=y.1/\x.2<y.2):=by unfold mq;rw[bytesLess_eq,bytesLess_eq,Bool.or_eq_true,aI,zE,zE,beq_iff_eq]
theorem ym{x y:Bs×Bs}:mq x y=false↔y.1<x.1∨(y.1=x.1/\y.2<=x.2):=by
 rw[<-Bool.not_eq_true,xeF];constructor
 ·intro h;by_cases c:y.1<x.1
  ·exact .inl c
  ·have d:¬x.1<y.1:=fun b=>h (.inl b);have e:y.1=x.1:=fJ (fX.1 d) (fX.1 c);exact .inr ⟨e,fX.1 fun b=>h (.inr ⟨e.symm,b⟩)⟩
 ·rintro(h|⟨h,k⟩) (g|⟨g,l⟩)
  ·exact eT _ (fD h g)
  ·rw[g]at h;exact eT _ h
  ·rw[h]at g;exact eT _ g
  ·exact fX.2 k l
theorem ysK{x y z:Bs×Bs}(h:mq x y=true)(k:mq y z=true):mq x z=true:=by
 rw[xeF]at *;rcases h with h|⟨c,e⟩
 ·rcases k with k|⟨b,d⟩
  ·exact .inl (fD h k)
  ·rw[b]at h;exact .inl h
 ·rcases k with k|⟨b,d⟩
  ·rw[<-c]at k;exact .inl k
  ·exact .inr ⟨c.trans b,fD e d⟩
theorem ZQ(x y z:Bs×Bs)(h:qe x y=true)(k:qe y z=true):qe x z=true:=by
 unfold qe at *;rw[bM,ym]at *;rcases h with h|⟨c,e⟩
 ·rcases k with k|⟨b,d⟩
  ·exact .inl (fD h k)
  ·rw[b]at h;exact .inl h
 ·rcases k with k|⟨b,d⟩
  ·rw[<-c]at k;exact .inl k
  ·exact .inr ⟨c.trans b,List.le_trans e d⟩
theorem nq(x:Bs×Bs):mq x x=false:=ym.2 (.inr ⟨rfl,List.le_refl _⟩)
theorem ey{x y:Bs×Bs}(h:mq x y=true):qe x y=true:=by
 unfold qe;rw[bM];cases b:mq y x with
 |false=>rfl|true=>have:=ysK h b;rw[nq]at this;cases this
theorem FV(x y:Bs×Bs):qe x y=true∨qe y x=true:=by
 cases h:mq x y with
 |true=>exact .inl (ey h)|false=>right;unfold qe;rw[h];rfl
theorem yyG{x y:Bs×Bs}(h:qe x y=true)(k:qe y x=true):x=y:=by
 unfold qe at *;rw[bM,ym]at *;rcases h with h|⟨b,e⟩
 ·rcases k with k|⟨c,d⟩
  ·exact absurd (fD h k) (eT _)
  ·rw[c]at h;exact absurd h (eT _)
 ·rcases k with k|⟨c,d⟩
  ·rw[b]at k;exact absurd k (eT _)
  ·exact Prod.ext b (fJ e d)
def qH(xs:kD):kD:=bf qe xs
def Ht(x y:Bs×Bs):Int:=if Pb x.1 y.1=0 then Pb x.2 y.2 else Pb x.1 y.1
theorem Ui:∀(x y:Bs),Pb x y=0↔x=y
 |[],[]=>by simp[Pb]
 |[],_::_=>by simp[Pb]
 |_::_,[]=>by simp[Pb]
 |a::x,b::y=>by
  have e:Pb (a::x) (b::y)=if a<b then -1 else if b<a then 1 else Pb x y:=by rw[Pb]
  rw[e];by_cases c:a<b
  ·rw[zJ c];refine⟨fun h=>by omega,fun h=>?_⟩;rw[(List.cons.inj h).1]at c;exact absurd c (UInt8.lt_irrefl _)
  ·by_cases d:b<a
   ·rw[zI c,zJ d];refine⟨fun h=>by omega,fun h=>?_⟩;rw[(List.cons.inj h).1]at d;exact absurd d (UInt8.lt_irrefl _)
   ·have f:a=b:=UInt8.le_antisymm (UInt8.not_lt.1 d) (UInt8.not_lt.1 c);rw[zI c,zI d,Ui x y,f];exact⟨fun h=>by rw[h],fun h=>(List.cons.inj h).2⟩
theorem HV(x y:Bs×Bs):ltOf Ht x y=mq x y:=by
 have b:=Cg x.1 y.1;have c:=Cg x.2 y.2;have d:=Ui x.1 y.1;unfold ltOf Ht;rw[Bool.eq_iff_iff,zE,xeF,<-decide_eq_decide.1 b,<-decide_eq_decide.1 c,<-d];by_cases h:Pb x.1 y.1=0
 ·rw[zJ h];exact⟨fun k=>.inr ⟨h,k⟩,fun k=>k.elim (fun k=>by omega) fun k=>k.2⟩
 ·rw[zI h];exact⟨fun k=>.inl k,fun k=>k.elim id fun k=>absurd k.1 h⟩
theorem fy:SWO (ltOf Ht) where
 irrefl x:=by rw[HV];exact nq x
 trans x y z h1 h2:=by rw[HV]at *;exact ysK h1 h2
 ntrans x y z h1 h2:=by
  rw[HV]at *;have:=ZQ z y x (by unfold qe;rw[h2];rfl) (by unfold qe;rw[h1];rfl);unfold qe at this
  rwa[bM]at this
set_option maxRecDepth 100000 in
set_option maxHeartbeats 1000000 in
theorem cmpM(x y:Bs×Bs)(W:World):Calls aA 126 #[.agg (T5 x).toArray,.agg (T5 y).toArray] W fun e w'=>e = .returned (.int .i64 (Ht x y))/\∃q g,w'=grow (W.drewN q) g:=by
 have c:=fun(a b:Bs) f=>Tryz.strings_Compare ⟨a.toArray⟩ ⟨b.toArray⟩ f;change ∀a b f,Calls aA 90 _ _ _ at c;change ∀a b f,Calls _ _ _ _ fun e w'=>e = .returned (.int .i64 (Pb a b))/\w'=f at c;have h:=c x.1 y.1;have i:=c x.2 y.2;clear c;show Calls _ _ #[.agg #[.string ⟨x.1.toArray⟩,.string ⟨x.2.toArray⟩],.agg #[.string ⟨y.1.toArray⟩,.string ⟨y.2.toArray⟩]] _ _;unfold Ht;generalize Pb x.1 y.1=d at h ⊢;generalize Pb x.2 y.2=k at i ⊢
 go_enter func126,Tryz.ntmps126
 go_wp2_with (first
  |(go_at_call 90;refine(h _).mono ?_;rintro e w' ⟨rfl,rfl⟩)
  |(go_at_call 90;refine(i _).mono ?_;rintro e w' ⟨rfl,rfl⟩))
 all_goals first
  |(have j:=‹(d != 0)=true›;rw[‹d=0›]at j;cases j;done)
  |(exact absurd (by simpa using ‹(d != 0)=false›) ‹¬d=0›)
  |(exact absurd (by simpa using ‹¬(d != 0)=true›) ‹¬d=0›)
  |(exact⟨rfl,0,_,by rw[alloc_eq_grow,alloc_eq_grow,grow_grow];rfl⟩)
  |(go_ret;exact⟨rfl,0,_,by rw[alloc_eq_grow,alloc_eq_grow,grow_grow];rfl⟩)
def gy(c:Nat)(W:World)(v:Value)(d:kD):Prop:=(v = .slice none 0 0/\d=[])∨∃g b e,v = .slice (some ⟨g,0,none⟩) d.length b/\c<=g/\d.length<=b/\W.heap[g]? = some (.cells (d.flatMap T5++e).toArray 75 (0,0))/\(d.flatMap T5++e).length=b*2
theorem tE{b:Nat}{W:World}{v:Value}{d:kD}(h:W.ownsRow b 75 2 v d.length (d.flatMap T5)):gy b W v d:=by
 obtain⟨_,⟨rfl,i⟩|⟨g,f,c,rfl,j,k,l,q,m,p⟩⟩:=h
 ·exact .inl ⟨rfl,aW i⟩
 ·have e:d.flatMap T5++c.toList.drop (d.length*2)=c.toList:=by rw[<-p];exact List.take_append_drop _ _
  exact .inr ⟨g,f,c.toList.drop (d.length*2),rfl,j,l,by rw[e];exact k,by rw[e];simpa using m⟩
theorem uE{d:Nat}{W:World}{v:Value}{c:kD}(h:gy d W v c)(hl:c.length<=1048576)(hB:d<=W.heap.size):Calls aA 210 #[v,.func (.func 126) #[] #[]] W fun e r=>e = .returned (.tuple #[])/\gy d r v (qH c)/\Below d W r:=by
 have l:(qH c).length=c.length:=(jh qe c).length_eq;rcases h with⟨rfl,rfl⟩|⟨g,m,B,rfl,L,M,C,N⟩
 ·refine(AnyF.slices_SortFunc_none Tryz.mH none 0 (.func (.func 126) #[] #[]) W).mono ?_;rintro e r ⟨rfl,rfl⟩;exact⟨rfl,.inl ⟨rfl,rfl⟩,Below.refl _ _⟩
 ·have O:g<W.heap.size:=(aT.1 C).1;have p:W.heap[g]? = some (.cells ((c.flatMap T5).map id++B).toArray 75 (0,0)):=by rw[fI];exact C
  have S:HoldsK T5 2 W g 0 c.toArray:=by unfold HoldsK;rw[BV];exact holds_of p (.inl rfl)
  have D:=AnyQ.slices_SortFunc Tryz.mH 2 isAgg75 sizeOf75 T5 yyP yzB Ht fy 126 #[] g 0 m c.toArray W (enters_of func126 (by kernel_rfl) rfl) (fun _ _ _ _ x y=>cmpM x y _) S O (by simp;omega);simp only[eB]at D;refine D.mono ?_;rintro e r ⟨rfl,f,q,os,hp,T,rfl⟩;have U:f.toList=qH c:=by
   obtain⟨E,_,H⟩:=hp;have s:f.toList.Perm c:=by
    have V:f.extract 0 c.length=f:=by have I:f.size=c.length:=(by simpa using E);rw[<-I];simp
    have X:c.toArray.extract 0 c.length=c.toArray:=by simp
    rw[V,X]at H;simpa using H
   refine JK (R:=fun x y=>qe x y=true) (fun a _ b _ h k=>yyG h k) (s.trans (jh _ c).symm) ?_ (WD FV ZQ c);rw[List.pairwise_iff_getElem];intro i j Y Z t;have u:i<f.size:=by simpa using Y
   have z:j<f.size:=by simpa using Z
   have J:=T i j (bG _) t (by have I:f.size=c.length:=(by simpa using E);omega);rw[HV,getElem!_pos f j z,getElem!_pos f i u]at J;show qe _ _=true;unfold qe;simp only[Array.getElem_toList];rw[J];rfl
  have A:f=(qH c).toArray:=by rw[<-U]
  subst A;unfold sortWorldK putRowK;rw[BV];obtain⟨K,g2,g3⟩:=UQ (enc:=id) (ds:=(qH c).flatMap T5) (q:=q) (os:=os) p (by rw[fI,Vx,Vx,l]);rw[fI]at K;refine⟨rfl,.inr ⟨g,m,B,by rw[l],L,by rw[l];exact M,K,?_⟩,?_⟩
  ·rw[<-N];simp only[aD,Vx,l]
  ·exact⟨rfl,rfl,rfl,g3,fun k hk=>g2 k (by omega) (by omega)⟩
set_option maxRecDepth 100000 in
set_option maxHeartbeats 2000000 in
theorem zm(F:Fence)(n:Nat)(hf:F.fn 276)(hg:F.fn 211)(I:F.round=none)(hn:3<=n)(C b ck:Nat)(es:List MapEntry)(w:World)(hm:w.cell? ⟨C,0,none⟩=some (.map (some b)))(hb:w.heap[b]? = some (.map es.toArray ck))(hB:C<w.heap.size) (S:∀x∈es,x.born<ck) (hnd:(es.map (·.born)).Nodup) (hk:∀e∈es,∃x,e.key=ba x) (hlen:es.length<=1048576):
  CallsIn F n aA 276 #[.slice none 0 0,.func (.func 211) #[] #[.pointer (some ⟨C,0,none⟩)]] w fun e w'=>∃(v:Value) (T:kD),e = .returned v/\(T.map ba).Perm (es.map (·.key))/\w'.ownsRow w.heap.size 75 2 v T.length (T.flatMap T5)/\Below w.heap.size w w':=by
 refine callsIn_of_wp_marks func276 rfl hf ?_ I;simp only[Tryz.ntmps276,eB,aQ,cN,jB,jC,gV,gW,iP,iF,bP,bS]
 gi_wp2
 obtain⟨N,j⟩:∃N,w.alloc (.cells #[.slice none 0 0] 72)=N:=⟨_,rfl⟩;have hs0:N.heap.size=w.heap.size+1:=by rw[<-j];simp
 have J:Below w.heap.size w N:=by rw[<-j];exact(Below.refl _ w).alloc (aL _) _
 have hc0:N.heap[w.heap.size]? = some (.cells #[.slice none 0 0] 72 (0,0)):=by rw[<-j];exact World.alloc_heap_new w _
 have hbl:=(aT.1 hb).1;rw[j];clear j;have hne:∀{s:Array Value} {c:Array Value},Obj.cells c 72 (0,0)≠Obj.cells s 75 (0,0):=fun e=>by have:=(Obj.cells.inj e).2.1;exact absurd this (by decide)
 refine Ti I (by omega) (gf:=211) (lb:=#[.pointer (some ⟨C,0,none⟩)]) rfl hg (enters_of func211 (by kernel_rfl) rfl)
  (Si F _ hg I (by omega) C b ck es N (by omega) ((J.cell (p:=⟨C,0,none⟩) hB).trans hm) ((J.block b hbl).trans hb) S hnd hk) (fun _=>rfl)
  (fun pre W=>(∃v,W.heap[w.heap.size]? = some (.cells #[v] 72 (0,0))/\W.ownsRow w.heap.size 75 2 v pre.length (pre.flatMap T5))/\Below w.heap.size w W)
  (OwnFrom.and (fun pre A B row hs U hr=>by
   obtain⟨v,h1,h2⟩:=hs
   exact⟨v,wm h1 U fun r e=>(hr r e).2,ytO h2 U fun r e=>(hr r e).2⟩) (ownFrom_below (aL _) (by omega)))
  ⟨⟨_,hc0,⟨rfl,.inl ⟨rfl,rfl⟩⟩⟩,J⟩ (fun x=>(T5 x).toArray) 75
  (fun x q=>{ tmps:=#[.slice none 0 0,.func (.func 211) #[] #[.pointer (some ⟨C,0,none⟩)],.pointer (some ⟨w.heap.size,0,none⟩),undef,.slice none 0 0,.pointer (some ⟨q,0,none⟩),.func (.func 211) #[] #[.pointer (some ⟨C,0,none⟩)],ba x,undef,undef,undef,undef,undef],defers:=[] }) ?assign ?body ?done
 case assign=>
  intro l x W K hK
  gi_wp2
  exact hK _ (World.grownBy_alloc W _ none) (World.alloc_heap_new W _)
 case body=>
  rintro l pre x q W ⟨⟨v,L,hrow⟩,m⟩ hlen2 hq hqs;obtain⟨hc2,hf2⟩:=YK L;have V:w.heap.size<W.heap.size:=(aT.1 L).1;have hq0:W.cell? ⟨q,0,none⟩=some (.string ⟨x.1.toArray⟩):=yyB (x:=str x.1) (y:=str x.2) hq 0 _ rfl;have hq1:W.cell? ⟨q,1,none⟩=some (.string ⟨x.2.toArray⟩):=yyB (x:=str x.1) (y:=str x.2) hq 1 _ rfl;obtain⟨i0,hi,hz0,hz1,hz2⟩:=info_parts (P:=aA) (e:=75) (z:=.agg #[.string ⟨#[]⟩,.string ⟨#[]⟩]) (size:=2) (bytes:=32) (by kernel_rfl);have hsl:Tryz.prog.underlying 72=some (.slice 75):=by kernel_rfl
  have hbs:=m.size
  gi_wp2_with (gi_at_builtin; refine wpListIn_append_own _ rfl _ _ 72 rfl w.heap.size 75 i0 (.agg #[.string ⟨#[]⟩, .string ⟨#[]⟩]) 2 32 hsl hi hz0 hz1 hz2 rfl (by decide) _ _ _ rfl (hrow.alloc _) ⟨W.heap.size, 0, none⟩ 1 1 (T5 x) rfl rfl (yyB (x := str x.1) (y := str x.2) (World.alloc_heap_new _ _)) (yzB x) (by simp [maxLen]; omega) (by omega) (by simp; omega) ?_; intro v' w3 hown' hg3 hnil3
               have M:w3.heap[w.heap.size]? = some (.cells #[v] 72 (0,0)):=(hg3.block w.heap.size (by simp;omega) (fun e=>by obtain⟨_,s,E⟩:=EV hrow e;rw[L]at E;cases E)).trans ((Below.heap_alloc _ _ _ V).trans L);obtain⟨hc3,hf3⟩:=YK M;obtain⟨O,d,i,rfl,hbase',hgb',hr1,hr2,hr3,hr4⟩:∃O d i,v' = .slice (some ⟨O,0,none⟩) (pre.length+1) d/\w.heap.size<=O/\w3.heap[O]? = some (.cells i 75 (0,0))/\pre.length+1<=d/\d<=maxLen/\i.size=d*2/\i.toList.take ((pre.length+1)*2)=pre.flatMap T5++T5 x:=by
                rcases hown'.2 with⟨_,h0⟩|h'
                ·exact absurd h0 (by omega)
                ·exact h')
  obtain⟨Y,t⟩:∃Y,w3.setCell ⟨w.heap.size,0,none⟩ (.slice (some ⟨O,0,none⟩) (pre.length+1) d)=Y:=⟨_,rfl⟩;have u:w3.grownBy Y (some w.heap.size):=by rw[<-t];exact⟨rfl,rfl,rfl,by simp,fun k _ hk=>Below.heap_setCell _ _ _ k (fun e=>hk (by rw[e]))⟩
  have hv4:Y.heap[w.heap.size]? = some (.cells #[.slice (some ⟨O,0,none⟩) (pre.length+1) d] 72 (0,0)):=by rw[<-t];exact dy _ M
  rw[t];clear t;have Z:=hg3.size;have hsz4:=u.size;rw[World.size_alloc]at Z
  have H:∀(k:Nat) (o:Obj),W.heap[k]? = some o->o.isCells=false->Y.heap[k]? = some o:=fun k o hk R=>by
   have hkl:k<W.heap.size:=(aT.1 hk).1;refine(u.block k (by omega) fun e=>?_).trans ((hg3.block k (by simp;omega) fun e=>?_).trans ((Below.heap_alloc _ _ k hkl).trans hk))
   ·cases e;rw[L]at hk;cases hk;cases R
   ·obtain⟨_,s,E⟩:=EV hrow e;rw[hk]at E;cases E;cases R
  have hb3:Below w.heap.size w w3:=(m.alloc hbs _).grown hg3 (by simp;omega) (fun k e=>(EV hrow e.symm).1);refine⟨⟨by omega,fun k o hk R=>H k o hk R⟩,⟨by omega,fun k o hk R=>H k o hk (Obj.not_cells_of_walk R)⟩,⟨_,hv4,hown'.kept u (.inr fun e=>?_)⟩,hb3.grown u hb3.size (fun k e=>by cases e;exact aL _)⟩;obtain⟨_,s,E⟩:=EV hown' e.symm;rw[M]at E;cases E
 case done=>
  rintro D T W hD hS ⟨⟨v,L,hrow⟩,m⟩ hK;obtain⟨hc2,hf2⟩:=YK L
  gi_wp2
  refine⟨by simp,.inl ⟨_,_,rfl,run_takeDeferred hK,?_⟩⟩;have hg3:=grownBy_putObj' W D (.deferred none);exact⟨_,results_tmp rfl _ _ _,v,T,rfl,hS,ytO hrow hg3 (fun r e=>by cases e;exact⟨_,hK,rfl⟩),m.grown hg3 m.size (fun k e=>by cases e;omega)⟩
set_option maxHeartbeats 2000000 in
theorem xeX(F:Fence)(n:Nat)(l:F.fn 209)(hf:F.fn 276)(m:F.fn 211)(d:F.round=none)(s:4<=n)(j b ck:Nat)(es:List MapEntry)(w:World)(p:w.cell? ⟨j,0,none⟩=some (.map (some b)))(q:w.heap[b]? = some (.map es.toArray ck))(hB:j<w.heap.size) (f:∀x∈es,x.born<ck) (k:(es.map (·.born)).Nodup) (hk:∀e∈es,∃x,e.key=ba x) (g:es.length<=1048576):
  CallsIn F n aA 209 #[.func (.func 211) #[] #[.pointer (some ⟨j,0,none⟩)]] w fun e w'=>∃(v:Value) (h:kD),e = .returned v/\(h.map ba).Perm (es.map (·.key))/\w'.ownsRow w.heap.size 75 2 v h.length (h.flatMap T5)/\Below w.heap.size w w':=by
 have t:1<=n:=by omega
 have u:∀c w,(callFunc 276 c).run aA w = .ok (.enter 276 c) w:=enters_of func276 (by kernel_rfl) rfl;refine callsIn_of_wp func209 rfl l ?_ d;simp only[Tryz.ntmps209,eB,aQ,cN,jB,jC,gV,gW,iP,iF,bP,bS]
 gi_wp2_with (gi_at_call 276;refine(zm F (n-1) hf m d (by omega) j b ck es _ p q hB f k hk g).mono ?_;rintro e w' ⟨v,h,rfl,hp,i,r⟩)
 go_ret
 exact⟨v,h,rfl,hp,i,r⟩
theorem iy{x y:Bs×Bs}(h:ba x=ba y):x=y:=by
 have c:[str x.1,str x.2].toArray=[str y.1,str y.2].toArray:=by injection h
 have b:[str x.1,str x.2]=[str y.1,str y.2]:=by injection c
 exact Prod.ext (LI (List.cons.inj b).1) (LI (List.cons.inj (List.cons.inj b).2).1)
theorem Vi{b β:Type}{f:b->β}(hf:∀x y,f x=f y->x=y):∀{l m:List b},(l.map f).Perm (m.map f)->l.Perm m
 |[],m,h=>by have:=h.length_eq;rw[aW (l:=m) (by simpa using this.symm)]
 |x::l,m,h=>by obtain⟨y,d,e⟩:=aY.1 (h.mem_iff.1 (show f x∈(x::l).map f from aO));have e:=hf _ _ e;subst e;obtain⟨a,c,rfl⟩:=List.append_of_mem d;have g:((y::l).map f).Perm ((y::(a++c)).map f):=h.trans (List.Perm.map f List.perm_middle);exact(List.Perm.cons y (Vi hf (List.Perm.cons_inv g))).trans List.perm_middle.symm
set_option maxHeartbeats 2000000 in
theorem It(p b ck:Nat)(es:List MapEntry)(f:kD)(w:World)(t:w.cell? ⟨p,0,none⟩=some (.map (some b)))(u:w.heap[b]? = some (.map es.toArray ck))(hB:p<w.heap.size) (i:∀x∈es,x.born<ck) (q:(es.map (·.born)).Nodup) (j:(f.map ba).Perm (es.map (·.key))) (l:es.length<=1048576) (z:qH f=f):Calls aA 124 #[.func (.func 211) #[] #[.pointer (some ⟨p,0,none⟩)],.func (.func 126) #[] #[]] w fun e w'=>∃v,e = .returned v/\gy w.heap.size w' v f/\Ext w w':=by
 have A:∀e∈es,∃x,e.key=ba x:=fun e B=>by obtain⟨x,_,g⟩:=aY.1 (j.mem_iff.2 (aY.2 ⟨e,B,rfl⟩));exact⟨x,g.symm⟩
 have C:=(callsIn_wide (n:=5)).1 (xeX Fence.wide 5 trivial trivial trivial rfl (by omega) p b ck es w t u hB i q A l);have D:=fun(W:World) (v:Value) (c:kD) (hp:(c.map ba).Perm (es.map (·.key))) (d:W.ownsRow w.heap.size 75 2 v c.length (c.flatMap T5)) (g:Below w.heap.size w W)=>uE (tE d) (by have:=hp.length_eq;simp at this;omega) g.size;have E:∀c:kD,(c.map ba).Perm (es.map (·.key))->qH c=f:=fun c hp=>by rw[<-z];have r:c.Perm f:=Vi (fun _ _=>iy) (hp.trans j.symm);exact JK (R:=fun x y=>qe x y=true) (fun a _ b _ h k=>yyG h k) ((jh _ c).trans (r.trans (jh _ f).symm)) (WD FV ZQ c) (WD FV ZQ f)
 go_enter func124,Tryz.ntmps124
 go_wp2_with (first
  |(go_at_call 209;refine C.mono ?_;rintro e w' ⟨v,c,rfl,hp,d,g⟩)
  |(go_at_call 210;refine(D _ v c hp d g).mono ?_;rintro e H ⟨rfl,m,s⟩))
 go_ret
 rw[E c hp]at m;exact⟨v,rfl,m,g.trans s⟩
def rH:kD->Bool
 |x::y::l=>mq x y&&rH (y::l)|_=>true
theorem xbX:∀{l:kD},rH l=true->l.Pairwise fun x y=>mq x y=true
 |[],_=>.nil|[x],_=>List.pairwise_singleton _ _|x::y::l,h=>by
  unfold rH at h;rw[aI]at h;have b:=xbX (l:=y::l) h.2;refine bD.2 ⟨fun z hz=>?_,b⟩;rcases aN.1 hz with rfl|hz
  ·exact h.1
  ·exact ysK h.1 ((bD.1 b).1 z hz)
theorem xeN{l:kD}(h:rH l=true):qH l=l:=
 JK (R:=fun x y=>qe x y=true) (fun _ _ _ _ h k=>yyG h k) (jh _ l) (WD FV ZQ l) ((xbX h).imp ey)
def dR(es:kC):Option (kD×kC):=bif decide (es.length<=1048576)&&rH (es.map (·.1))then some (es.map (·.1),es)else none
theorem Wi{S:Mem}:∀{l:kC} {Q':List MapEntry},A2 (fun(p:(Bs×Bs)×Unit) b=>a7 (.pr .s .s) S b.key p.1/\a7 .un S b.val p.2) l Q'->Q'.map (·.key)=l.map fun p=>ba p.1
 |_,_,.nil=>rfl|p::l,b::Q',.cons a r=>by have h:b.key=kv (.pr .s .s) p.1:=Nl (K:=.pr .s .s) rfl a.1;rw[bF,bF,Wi r,h];rfl
theorem vE{S:Mem}{W:World}{b:Nat}{v:Value}{c:kD}(h:gy b W v c)(hS:∀g,b<=g->S g=W.heap[g]?):@x8 (den T2) (Q9 T2) S v c:=by
 refine⟨c.flatMap T5,?_,km c⟩;show we S v c.length 2 (c.flatMap T5);rcases h with⟨rfl,rfl⟩|⟨g,d,e,rfl,f,i,j,k⟩
 ·exact .inl ⟨⟨_,rfl⟩,rfl,rfl⟩
 ·refine .inr ⟨g,0,d,c.flatMap T5++e,75,(0,0),rfl,i,?_,?_,?_⟩
  ·rw[hS g f,j]
  ·rw[k];omega
  ·rw[P9,List.drop_zero];exact List.take_left' (Vx c)
section
variable {G:List (Nat×Obj)}
abbrev Z':X3:=.mp true (.pr .s .s) .un
theorem xeS:P' aA G 124 ⟨⟨[(0,(.fn 211 [] [(.ptr 0 0)])),(1,(.fn 126 [] []))],[.N' 126 [(.mpr 1)],Z']⟩,1,[(none,⟨[(0,(.h (.sl (.pr .s .s))))],[.N' 126 [(.mpr 1)],Z']⟩)],fun(es:kC)=>dR es⟩:=by
 refine⟨Y5 func124 (by kernel_rfl) (by kernel_rfl),fun f j J m K (es:kC) d _ p R q=>?_⟩;have q:(bif decide (es.length<=1048576)&&rH (es.map (·.1))then some (es.map (·.1),es)else none)=some d:=q;obtain⟨C,q⟩:=r7 q;have hd:d=(es.map (·.1),es):=(Option.some.inj q).symm;subst hd;have O:=zD (Z3 C);have r:=Y4 C;have p:J.length=2:=p;obtain⟨u,x,rfl⟩:∃u x,J=[u,x]:=by
  match J,p with
  |[u,x],_=>exact⟨u,x,rfl⟩
 have R:l3 ⟨f,U5 K,j⟩ f m K ⟨[(0,.fn 211 [] [.ptr 0 0]),(1,.fn 126 [] [])],[.N' 126 [.mpr 1],.mp 0 (.pr .s .s) .un es]⟩ (fun t=>[u,x].getD t undef) j:=R;obtain⟨r0,e0,a1,a2,H,cs,rfl,rfl,a3⟩:=R.P6 (i:=0) rfl;obtain⟨c,rfl,a4⟩:=a3.one;obtain⟨_,e1,S,a6⟩:=(show VB f m (.mpr 1) c from a4);obtain⟨r1,e1',c1,c2,b,Q',ck,rfl,rfl,T,c4⟩:=R.P6 (i:=1) rfl;rw[c2]at S;cases S;have hc:=a6 _ _ _ _ rfl;subst hc;have D:j.heap[H]? = some (.cells [Value.map (some b)].toArray 126 (0,0)):=R.hs.own 0 _ a1;have L:j.heap[b]? = some (.map Q'.toArray ck):=R.hs.own 1 _ c1;have M:u = .func (.func 211) #[] #[.pointer (some ⟨H,0,none⟩)]:=by obtain⟨xs,ys,M,U,V⟩:=(show VC f m (.fn 211 [] [.ptr 0 0]) u from R.sl 0);cases U;obtain⟨y,rfl,h3⟩:=V.one;obtain⟨b1,q,e2,W,h5⟩:=(show VB f m (.ptr 0 0) y from h3);rw[a2]at W;cases W;cases h5 _ rfl;rw[M,q]
 subst M;obtain⟨x1,y1,z,q1,q2⟩:=(show VC f m (.fn 126 [] []) x from R.sl 1);cases q1;cases q2;have z:x = .func (.func 126) #[] #[]:=z;subst z;obtain⟨(l:kC),(X:l.Perm es),Y⟩:=T.perm;have A:=Wi Y;have N:((es.map (·.1)).map ba).Perm (Q'.map (·.key)):=by rw[A,cW];exact(X.map _).symm
 have B:j.cell? ⟨H,0,none⟩=some (.map (some b)):=by simp[World.cell?,D]
 refine(It H b ck Q' (es.map (·.1)) j B L (aT.1 D).1 c4 T.nd N (by have U:cZ l=Q'.length:=Y.len;have V:cZ l=es.length:=X.length_eq;omega) (xeN r)).mono fun e Z ⟨v,he,E,hx⟩=>?_;have I:=R.call hx;have hv:VB (gr f j Z) m (.v (.sl (.pr .s .s)) (show List (Bs×Bs)from es.map (·.1))) v:=⟨v,rfl,vE E fun g hg=>by unfold Go.Proofs.YtopanhneegpgcaaGreatDoor.gr;rw[zI (by omega)]⟩;refine⟨v,he,gr f j Z,m,K,⟨[(0,.v (.sl (.pr .s .s)) (show List (Bs×Bs)from es.map (·.1)))],[.N' 126 [.mpr 1],.mp 0 (.pr .s .s) .un es]⟩,fun _=>v,fun k=>rfl,nG R.hs.sub,l8.refl _ _,⟨I.hs,I.lL,I.lE,I.obj,fun t=>?_⟩,?_,aL _,rfl⟩
 ·cases t with
  |zero=>exact VR.ig (show VC _ _ (.v (.sl (.pr .s .s)) (show List (Bs×Bs)from es.map (·.1))) v from hv)|succ t=>trivial
 ·intro i ver e' T' xs h;cases i with
  |zero=>cases h
  |succ i=>
   cases i with
   |zero=>cases h
   |succ i=>cases h
end
end Go.Proofs.YtopanhneegpgcaaGreatDoor.Am
namespace Go.Proofs
open Go.Shelf
def Tryz.jy:Go.Shelf.Ren:=⟨fun|6=>212|n=>n,fun|22=>22|23=>9|25=>25|3=>3|0=>0|4=>4|n=>n,fun|n=>n⟩
theorem Tryz.idxS:Go.Proofs.SlLaysH.n6 aA Tryz.jy:={mixed:=by kernel_rfl,f6:=⟨Tryz.f212.name,by decide,U0 F8⟩,t0:=A9,a0:=B0,z0:=B1,v0:=B2,t3:=B3,a3:=B4,z3:=B5,v3:=B6,t4:=A0,a4:=A1,z4:=A3,v4:=A4,t22:=B7,a22:=B8,z22:=B9,v22:=C0,a23:=A5,z23:=A6,t25:=C9,a25:=D1,z25:=D2,v25:=D3 }
def Tryz.ky:Go.Shelf.Ren:=⟨fun|10=>274|6=>212|n=>n,fun|22=>22|23=>9|25=>25|3=>3|4=>4|0=>0|n=>n,fun|n=>n⟩
theorem Tryz.delS:Go.Proofs.SlLaysH.n10 aA Tryz.ky:={mixed:=by kernel_rfl,f6:=⟨Tryz.f212.name,by decide,U0 F8⟩,f10:=⟨Tryz.f274.name,by decide,U0 H7⟩,t0:=A9,a0:=B0,z0:=B1,v0:=B2,t3:=B3,a3:=B4,z3:=B5,v3:=B6,t4:=A0,a4:=A1,z4:=A3,v4:=A4,t22:=B7,a22:=B8,z22:=B9,v22:=C0,a23:=A5,z23:=A6,t25:=C9,a25:=D1,z25:=D2,v25:=D3 }
end Go.Proofs
namespace Go.Proofs.YtopanhneegpgcaaGreatDoor.Am
open Go Go.Proofs Go.RowKit Go.Sort Go.Shelf Go.Lib
theorem Xi(s x:Bs)(B:Nat)(W:World)(b:W.cell? ⟨B,0,none⟩=some (.string ⟨s.toArray⟩)):
  FnGives aA 275 #[.pointer (some ⟨B,0,none⟩)] #[encStr x] (.bool (x==s)) W:=by
 show Calls aA 275 #[.string ⟨x.toArray⟩,.pointer (some ⟨B,0,none⟩)] W _
 go_enter func275,Tryz.ntmps275
 go_wp2
 go_ret
 exact⟨rfl,0,rfl⟩
theorem xbT(a:Option Addr)(c:Nat)(b:Value)(w:World):Calls aA 274 #[.slice a 0 c,b] w fun x w'=>x = .returned (.slice a 0 c)/\w'=w:=by
 have h:=AnyE.slices_IndexFunc_empty Tryz.idxS a c b w;change Calls aA 212 _ _ _ at h
 go_enter H7,Tryz.ntmps274
 go_wp2_with (go_at_call 212;refine h.mono ?_;rintro e w' ⟨rfl,rfl⟩)
 go_ret
 exact⟨rfl,rfl⟩
theorem Jt(s:Bs)(B b c:Nat)(l:kE)(w:World)(i:Go.Sort.Holds encStr w b 0 l.toArray)(hB:B<w.heap.size)(g:B≠b)(h:w.cell? ⟨B,0,none⟩=some (.string ⟨s.toArray⟩))(j:l.length<=9223372036854775807)(f:l.length<=c):Calls aA 274 #[.slice (some ⟨b,0,none⟩) l.length c,.func (.func 275) #[] #[.pointer (some ⟨B,0,none⟩)]] w fun x w'=>x = .returned (.slice (some ⟨b,0,none⟩) (l.filter fun x=>!(x==s)).length c)/\∃n,w'=putRow encStr (Go.Sort.ahead w n) b 0 ((l.filter fun x=>!(x==s))++bI (l.length-(l.filter fun x=>!(x==s)).length) []).toArray:=by
 have k:∀d w,(callFunc 275 d).run aA w = .ok (.enter 275 d) w:=enters_of func275 (by kernel_rfl) rfl
 have e:=AnyE.slices_DeleteFunc Tryz.delS encStr (fun _=>rfl) (fun x=>x==s) 275 #[.pointer (some ⟨B,0,none⟩)] k [] zeroValue9 b 0 c l.toArray w
  (fun W x m=>Xi s x B W ((m.cell (p:=⟨B,0,none⟩) hB).trans h))
  (fun n os q x _=>Xi s x B _ (by
   unfold sortWorld;rw[cell?_grow _ _ _ (by show B<(putRow _ _ _ _ _).heap.size;rw[size_putRow];exact hB),cell?_putRow_other _ _ b 0 _ _ (Or.inl g)]
   exact h)) i (by simpa using j) (by simpa using f)
 change Calls aA 274 _ _ _ at e;simpa using e
def od(xs:kE)(s:Bs):kE:=xs.filter fun x=>!(x==s)
theorem ZK(xs:kE)(s:Bs):(od xs s).length<=xs.length:=List.length_filter_le _ _
def jR(xs:kE)(s:Bs):Option (kE×Bs):=bif decide (xs.length<1152921504606846976)then some (xs.filter fun x=>!(x==s),s)else none
section
variable {G:List (Nat×Obj)}
theorem ly:P' aA G 274 ⟨⟨[(0,(.own 0)),(1,(.fn 275 [] [(.ptr 1 0)]))],[.H' .s 9,.N' 9 [.h .s]]⟩,1,[(none,⟨[(0,(.h (.sl .s)))],[.dead,.N' 9 [.h .s]]⟩)],fun(x:kE×Bs)=>jR x.1 x.2⟩:=by
 refine⟨Y5 H7 (by kernel_rfl) (by kernel_rfl),fun g m us E L0 (x:kE×Bs) d _ K R L=>?_⟩;obtain⟨f,s⟩:=x;have L:(bif decide (f.length<1152921504606846976)then some (od f s,s)else none)=some d:=L;obtain⟨hlt,L⟩:=r7 L;have hlt:=zD hlt;have hd:d=(od f s,s):=(Option.some.inj L).symm;subst hd;have K:us.length=2:=K;obtain⟨u,M,rfl⟩:∃u M,us=[u,M]:=by
  match us,K with
  |[u,M],_=>exact⟨u,M,rfl⟩
 have R:l3 ⟨g,U5 L0,m⟩ g E L0 ⟨[(0,.own 0 0),(1,.fn 275 [] [.ptr 1 0])],[.H' 0 .s 9 f,.N' 9 [.v .s s]]⟩ (fun t=>[u,M].getD t undef) m:=R;obtain⟨r0,e0,N,a2,v,v',W,z,rfl,rfl,O,S⟩:=R.P6 (i:=0) rfl;obtain⟨r1,e1,X,c2,j,us1,rfl,rfl,c3⟩:=R.P6 (i:=1) rfl;obtain⟨c0,rfl,c4⟩:=c3.one;have hc0:c0=str s:=by obtain⟨c,hc,hr⟩:=(show VB g E (.v .s s) c0 from c4);rfl
 subst hc0;obtain⟨h7,e1',h8,h9⟩:=(show VB g E (.own 0 0) u from R.sl 0);rw[a2]at h8;cases h8;have I:u=v':=(h9 _ _ _ rfl).2 rfl;subst I;have hu2:M = .func (.func 275) #[] #[.pointer (some ⟨j,0,none⟩)]:=by obtain⟨f,ys,I,h1,h2⟩:=(show VC g E (.fn 275 [] [.ptr 1 0]) M from R.sl 1);cases h1;obtain⟨y,rfl,h3⟩:=h2.one;obtain⟨b2,L,e2,h4,h5⟩:=(show VB g E (.ptr 1 0) y from h3);rw[c2]at h4;cases h4;cases h5 _ rfl;rw[I,L]
 subst hu2;have hLl:L0.length=2:=R.lL;have hEl:E.length=2:=R.lE;obtain rfl:L0=[.H' v f.length 1 W z 9,.N' j [str s] 9]:=by
  match L0,hLl,N,X with
  |[p,q],_,N,X=>simp[Y3]at N X;rw[N,X];rfl
 obtain rfl:E=[.H' 0 u 1,.N' j]:=by
  match E,hEl,a2,c2 with
  |[p,q],_,a2,c2=>simp at a2 c2;rw[a2,c2];rfl
 have H:=R.hs;have hh1:m.heap[j]? = some (.cells [str s].toArray 9 (0,0)):=H.own 1 _ X;have T:m.cell? ⟨j,0,none⟩=some (.string ⟨s.toArray⟩):=by simp[World.cell?,hh1]
 have hb1:=(aT.1 hh1).1;have hcs:=EN O
 -- how it ends
 have fin:∀(v2 B:Value) (A C:LV) (w':World),HS ⟨g,U5 [.H' v f.length 1 W z 9,.N' j [str s] 9],m⟩ g w' [.H' v2 (od f s).length 1 A C 9,.N' j [str s] 9]->@RL (den .s) (Q9 .s) g A (od f s)->dc g v2 B (od f s).length->B.oneCell'=true ->
   ∃Y Z L' l V',(∀{γ:Type} (k:Ex->St->Option γ),out [] [(none,(⟨[(0,(.h (.sl .s)))],[.dead,.N' 9 [.h .s]]⟩:c7))] ((od f s,s):kE×Bs) k=k .normal l)/\Mem.le g Y/\l8 2 [.H' 0 u 1,.N' j] Z/\l3 ⟨g,U5 [.H' v f.length 1 W z 9,.N' j [str s] 9],m⟩ Y Z L' l V' w'/\Sa l.hp/\2<=l.hp.length/\B=gh (sg V' 0 1):=by
  intro v2 B A C w' H2 hr2 hs2 ho;generalize od f s=ys at *
  have R1:l3 ⟨g,U5 [.H' v f.length 1 W z 9,.N' j [str s] 9],m⟩ g [.H' 1 B 1,.N' j] [.H' v2 ys.length 1 A C 9,.N' j [str s] 9] ⟨[(0,.own 0 1)],[.H' 1 .s 9 ys,.N' 9 [.v .s s]]⟩ (fun _=>B) w':=by
   refine⟨H2,rfl,rfl,fun i o h=>?_,fun t=>?_⟩
   ·cases i with
    |zero=>cases h;exact⟨_,_,rfl,rfl,v2,B,A,C,rfl,rfl,hr2,hs2⟩
    |succ i=>
     cases i with
     |zero=>cases h;exact⟨_,_,rfl,rfl,j,[str s],rfl,rfl,.cons (show VC g _ (.v .s s) (str s)from c4) .nil⟩
     |succ i=>simp at h
   ·cases t with
    |zero=>exact VR.ig (show VC g _ (.own 0 1) B from⟨ho,_,rfl,fun r v' s he=>by cases he;exact⟨aL 1,fun _=>rfl⟩⟩)|succ t=>trivial
  obtain⟨Y,Z,L',hS,hE',R2⟩:=yQ R1 0;refine⟨Y,Z,L',⟨[(0,.v (.sl .s) ys)],[.dead,.N' 9 [.v .s s]]⟩,fun _=>B,fun k=>rfl,hS,fun k a hk ha=>?_,R2,?_,aL _,rfl⟩
  ·match k,hk with
   |0,_=>
    cases ha;obtain⟨a',h2,h3⟩:=hE' 0 _ rfl;refine⟨a',h2,.inl ⟨_,_,_,rfl,?_⟩⟩;rcases h3 with rfl|rfl|⟨r',v',rfl,h4⟩
    ·exact .inr ⟨1,B,rfl,fun h=>by cases h⟩
    ·exact .inl rfl
    ·exact .inr ⟨r',v',rfl,fun h=>by omega⟩
   |1,_=>
    cases ha;obtain⟨a',h2,h3⟩:=hE' 1 _ rfl;refine⟨a',h2,.inr ⟨fun r v s h=>(by cases h),?_⟩⟩;rcases h3 with rfl|rfl
    ·exact .inr (.inl rfl)
    ·exact .inl rfl
  ·intro i ver e' T' xs' hi
   match i with
   |0=>cases hi
   |1=>cases hi
   |i+2=>simp at hi
 rcases H.own 0 _ N with⟨D,hn,_,_⟩|⟨b,c,fz,D,k1,k2,k3,k4,k5⟩
 ·have hx:f=[]:=aW hn;have I:∃a c,u = .slice a 0 c:=by
   rcases S with h|⟨_,_,_,a,h⟩
   ·exact⟨none,0,by rw[h,D]⟩
   ·exact⟨a,0,h⟩
  obtain⟨a,c,I⟩:=I;subst hx;refine(show Calls aA 274 #[u,_] _ _ from by rw[I];exact xbT a c _ m).mono ?_;rintro e w' ⟨rfl,rfl⟩;exact⟨_,rfl,(by rw[<-I];exact fin v u W z _ H O S h7)⟩
 ·rcases S with h|⟨h,_⟩
  ·subst h;by_cases hx:f=[]
   ·subst hx;refine(show Calls aA 274 #[u,_] _ _ from by rw[D];exact xbT (some ⟨b,0,none⟩) c _ m).mono ?_;rintro e w' ⟨rfl,rfl⟩;exact⟨_,rfl,(by rw[<-show sl b 0 0 c = .slice (some ⟨b,0,none⟩) 0 c from rfl];rw[<-show u=sl b 0 0 c from D];exact fin u u W z _ H O (.inl rfl) h7)⟩
   ·subst hcs;have U:j≠b:=fun e=>by have:=H.inj 0 1 _ _ b N X (by rw[D];rfl) (by rw[e];rfl);omega
    refine(show Calls aA 274 #[u,_] _ _ from by rw[D];exact Jt s j b c f m (holds_of k4 k5) hb1 U T (by omega) k1).mono ?_;rintro x w' ⟨rfl,q,rfl⟩;have hl:=ZK f s;change (od f s).length<=f.length at hl;obtain⟨g1,g2,g3⟩:=UQ (enc:=encStr) (ds:=od f s++bI (f.length-(od f s).length) []) (q:=q) (os:=#[]) k4 (by rw[aE,aD,fY];omega);rw[grow_empty]at g1 g2 g3;have hcl:(od f s).length=(od f s).length*1:=(Nat.mul_one _).symm;refine⟨_,rfl,?_⟩;change ∃Y Z L' l V',_/\_/\_/\l3 _ Y Z L' l V' (putRow encStr (Go.Sort.ahead m q) b 0 (od f s++bI (f.length-(od f s).length) []).toArray)/\_/\_/\_;generalize hds:od f s++bI (f.length-(od f s).length) ([]:Bs)=ds at g1 g2 g3 ⊢;have V:ds.map encStr++z=(od f s).map encStr++((bI (f.length-(od f s).length) ([]:Bs)).map encStr++z):=by rw[<-hds,cC,List.append_assoc]
    generalize (bI (f.length-(od f s).length) ([]:Bs)).map encStr++z=rs' at V;have hdn:ds.length=f.length:=by rw[<-hds,aD,fY];omega
    have J:((od f s).map encStr++rs').length=(f.map encStr++z).length:=by rw[<-V];simp only[aD,aE,hdn]
    rw[V]at g1;rw[D]at H N;have H2:=HS.Gb H (w':=putRow encStr (Go.Sort.ahead m q) b 0 ds.toArray) (k:=0) (r:=.H' (sl b 0 f.length c) f.length 1 (f.map encStr) z 9) (r':=.H' (sl b 0 (od f s).length c) (od f s).length 1 ((od f s).map encStr) rs' 9) rfl g3 rfl rfl rfl (fun i hi U=>g2 i hi fun e=>U (by rw[e];rfl)) (.inr ⟨b,c,fz,rfl,Nat.le_trans hl k1,by rw[aE];exact hcl,by rw[J];exact k3,g1,by rw[J];exact k5⟩) fun b' hb'=>.inl hb';rw[<-D]at H2;exact fin (sl b 0 (od f s).length c) _ _ rs' _ H2 (DN _) (.inl rfl) rfl
  ·rw[D]at h;cases h
end
end Go.Proofs.YtopanhneegpgcaaGreatDoor.Am
namespace Go.Proofs.YtopanhneegpgcaaGreatDoor.Am
open Go Go.RowKit
structure D' where
 itoa:Int->Option Bs
 atoi:Bs->Option (Int×Bool)
 trim:Bs->Bs->Option Bs
 cut:Bs->Bs->Option (Bs×Bs×Bool)
 form:kE->Option Bs
 compare:Bs->Bs->Option (Int)
def xfQ(o:D'):PC:=⟨[(.h (.i .i64))],[.s],fun x=>o.itoa x,false⟩
def pq(o:D'):PC:=⟨[(.h .s)],[(.i .i64),.er],fun x=>o.atoi x,false⟩
def IV(o:D'):PC:=⟨[(.h .s),(.h .s)],[.s],fun x=>o.trim x.1 x.2,false⟩
def Cm(o:D'):PC:=⟨[(.h .s),(.h .s)],[.s,.s,.b],fun x=>o.cut x.1 x.2,false⟩
def lR(o:D'):PC:=⟨[(.h (.sl .s))],[.s],fun x=>o.form x,false⟩
def Dm(o:D'):PC:=⟨[(.h .s),(.h .s)],[(.i .i64)],fun x=>o.compare x.1 x.2,false⟩
class Xa (G:List (Nat×Obj)) (o:D'):Prop where
 itoa:Z0 aA G 68 (xfQ o)
 atoi:Z0 aA G 165 (pq o)
 trim:Z0 aA G 164 (IV o)
 cut:Z0 aA G 59 (Cm o)
 form:Z0 aA G 22 (lR o)
 compare:Z0 aA G 90 (Dm o)
theorem jc{p:Prop}{G:List (Nat×Obj)}{o:D'}[kb G][Xa G o](h:p):p:=h
def X':D':=⟨yK,gq,NA,UD,CN,Ni⟩
instance realOk {G:List (Nat×Obj)} [kb G]:Xa G X':=⟨ytX,ytT,ytK,yvE,yvI,yoA⟩
end Go.Proofs.YtopanhneegpgcaaGreatDoor.Am
