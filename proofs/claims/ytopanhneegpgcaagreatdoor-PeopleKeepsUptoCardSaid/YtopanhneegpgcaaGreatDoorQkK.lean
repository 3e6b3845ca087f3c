/- Parts of one proof. Conditions: as each theorem says. -/
import Derived.RangeFuncNested
import Derived.RangeFuncBound
import Derived.RangeFuncCalls
import Derived.RangeFuncLeaves
import Derived.RangeFuncFrom
import Derived.Shelf.Abstract
import Derived.Shelf.RegionOpen
import Derived.WalkKit
import Derived.OwnWalkIn
import Derived.TacticsInMore
import Derived.LoopNIn
import Derived.LoopIn
import Derived.Maps.RangeRun
import Derived.Shelf.SlicesE.DeleteFunc
import Derived.Ground.SlgfProg
import Derived.Test.YtopanhneegpgcaaGreatDoorProg
import Derived.Lib.SliceRun
import Derived.Test.YtopanhneegpgcaaGreatDoorQkJ
open Array renaming getElem?_eq_some_iff->aR,getElem?_setIfInBounds_ne->dP,replicate_succ->fY,replicate_zero->fZ
open Bool renaming and_eq_true->aH,not_eq_true'->bE
open List renaming append_toArray->gH,cons_append->bL,eq_nil_of_length_eq_zero->aT,getElem?_cons_zero->eT,le_antisymm->fI,length->dZ,length_append->aD,length_cons->aS,length_map->aI,length_nil->bZ,length_replicate->fF,lt_irrefl->dV,lt_trans->eK,map_append->cN,map_cons->bG,map_id->eQ,map_map->eA,mem_cons->aL,mem_cons_of_mem->aN,mem_cons_self->aO,mem_map->bF,nil_append->bR,nodup_cons->dM,not_lt->fE,pairwise_cons->aX,push_toArray->gV,replicate->bC,size_toArray->dD
open Nat renaming le_refl->aK,reduceAdd->iH,reduceSub->iI,zero_le->bS
open Go.Proofs.Tryz renaming prog->aB
namespace Go.Proofs.YtopanhneegpgcaaGreatDoor.Am
open Go Go.Proofs Go.RowKit Go.Sort Go.Shelf
attribute [local go_sem] Oper.semAt_some
section
variable {F:Fence}{n:Nat}{P:Program}(w:World){ops:Array Oper}{rest:List Oper}{o:Oper}{a:Act}{Q:Exit->Act->World->Prop}
theorem ytB(hg:o.guard=none)(m:Operand)(t k e:TypeId)(hop:o.op=Op.range t m)(ht:P.underlying t=some (.map k e))(b ck:Nat)(es:Array MapEntry)(hm:a.eval m = .map (some b))(hb:w.heap[b]? = some (.map es ck)) (hK:wpListIn F n P ops Q rest (a.put o.dst (.pointer (some ⟨w.heap.size,0,none⟩))) (w.alloc (.mapIter (some b) ck #[] ck))):wpListIn F n P ops Q (o::rest) a w:=by refine wpListIn_plain hg fun K' hK'=>?_;have hrun:=run_range_map (P:=P) w t k e b es ck ht hb;unfold Oper.wpIn;refine⟨by simp[Oper.about,hop],?_⟩;rw[Oper.semAt_plain F _ _ (by rw[hop];intro c hc';cases hc')];simp[execOp,hop,hm,hrun,Result.andThen];exact hK' _ _ hK
theorem yxB(hg:o.guard=none)(it:Operand)(hop:o.op=Op.next it false)(b r ck:Nat)(es:List MapEntry)(seen:Array Nat) (hit:a.eval it = .pointer (some ⟨r,0,none⟩)) (hr:w.heap[r]? = some (.mapIter (some b) ck seen ck)) (hb:w.heap[b]? = some (.map es.toArray ck)) (hold:∀x∈es,x.born<ck) (hnd:(es.map (·.born)).Nodup) (hDone:(∀e∈es,e.born∈seen.toList)->wpListIn F n P ops Q rest (a.put o.dst (.tuple #[.bool false])) w) (hMore:∀(e:MapEntry) (w':World),e∈es->e.born∉seen.toList->w.grownBy w' (some r)->w'.heap[r]? = some (.mapIter (some b) ck (seen.push e.born) ck)->w'.heap[b]? = some (.map es.toArray ck)->(Instr.entry (.pointer (some ⟨r,0,none⟩))).run P w' = .ok (.tuple #[e.key,e.val]) w'->wpListIn F n P ops Q rest (a.put o.dst (.tuple #[.bool true,e.key,e.val])) w'):
  wpListIn F n P ops Q (o::rest) a w:=by
 refine wpListIn_plain hg fun K' hK'=>?_;unfold Oper.wpIn;refine⟨by simp[Oper.about,hop],?_⟩;rw[Oper.semAt_plain F _ _ (by rw[hop];intro c hc';cases hc')];have hl:∀e,e∈(leftOf es.toArray seen).toList↔e∈es/\e.born∉seen.toList:=fun e=>by simp[leftOf]
 rcases run_next_at (P:=P) w o.type r b ck ck seen es.toArray ck hr hb (by simpa using hold) (aK _)with⟨h0,hrun⟩|⟨e,he,w1,h1,hrun⟩
 ·simp[execOp,hop,hit,hrun,Result.andThen];refine hK' _ _ (hDone fun e he=>Classical.byContradiction fun hn=>?_);have:=(hl e).2 ⟨he,hn⟩;rw[Array.eq_empty_of_size_eq_zero h0]at this;simp at this
 ·simp[execOp,hop,hit,hrun,Result.andThen];have h2:=(hl e).1 he;have hrb:b≠r:=fun e=>by subst e;rw[hr]at hb;cases hb
  have hrl:r<w.heap.size:=(aR.1 hr).1;have hw1:w1.heap=w.heap/\w1.os=w.os/\w1.tape=w.tape/\w1.output=w.output:=by rcases h1 with rfl|rfl<;>exact⟨rfl,rfl,rfl,rfl⟩
  have e1:(ChangeMaps.setBlock w1 r (.mapIter (some b) ck (seen.push e.born) ck)).heap[r]? = some (.mapIter (some b) ck (seen.push e.born) ck):=by show(w1.heap.setIfInBounds r _)[r]? = _;rw[hw1.1,Array.getElem?_setIfInBounds_self_of_lt hrl]
  have e2:(ChangeMaps.setBlock w1 r (.mapIter (some b) ck (seen.push e.born) ck)).heap[b]? = some (.map es.toArray ck):=by show(w1.heap.setIfInBounds r _)[b]? = _;rw[hw1.1,dP (fun e=>hrb e.symm)];exact hb
  refine hK' _ _ (hMore e _ h2.1 h2.2 ⟨hw1.2.1,hw1.2.2.1,hw1.2.2.2,by simp[ChangeMaps.setBlock,hw1.1],fun k hk hne=>?_⟩ e1 e2 (run_entry_at _ r b ck seen es.toArray ck e e1 e2 (by simpa using h2.1) (by simpa using hnd)));show(w1.heap.setIfInBounds r _)[k]? = _;rw[hw1.1,dP (fun e=>hne (by rw[e]))]
end
theorem zrS{α:Type}[DecidableEq α]:∀{l m:List α},l.Nodup->(∀x∈l,x∈m)->l.length<=m.length
 |[],_,_,_=>bS _|x::l,m,hn,hs=>by have hn:=dM.1 hn;have hx:=hs x aO;have:=zrS (m:=m.erase x) hn.2 fun y hy=>(List.mem_erase_of_ne (fun e=>hn.1 (by rw[<-e];exact hy))).2 (hs y (aN _ hy));rw[List.length_erase_of_mem hx]at this;have hpos:0<m.length:=List.length_pos_of_mem hx;simp only[aS];omega
theorem ykL{α:Type}[DecidableEq α]:∀{l m:List α},l.Nodup->m.Nodup->(∀x,x∈l↔x∈m)->l.Perm m
 |[],m,_,_,h=>by
  cases m with
  |nil=>exact .refl _|cons y m=>exact absurd ((h y).2 aO) (by simp)
 |x::l,m,hn,hm,h=>by
  have hn':=dM.1 hn;have hx:x∈m:=(h x).1 aO;refine(List.Perm.cons x (ykL hn'.2 (hm.erase x) fun y=>?_)).trans (List.perm_cons_erase hx).symm;rw[hm.mem_erase_iff];constructor
  ·exact fun hy=>⟨fun e=>hn'.1 (by rw[<-e];exact hy),(h y).1 (aN _ hy)⟩
  ·rintro⟨h1,h2⟩;exact(aL.1 ((h y).2 h2)).resolve_left h1
abbrev encM(x:Bs×Bs):Value:=.agg #[str x.1,str x.2]
def itLeft(r n:Nat)(W:World):Nat:=match W.heap[r]? with
 |some (.mapIter _ _ seen _)=>n-seen.size|_=>0
structure Came (es vis:List MapEntry) (ss:List (Bs×Bs)):Prop where
 nd:(vis.map (·.born)).Nodup
 sub:∀e∈vis,e∈es
 keys:ss.map encM=vis.map (·.key)
theorem Came.len{es vis:List MapEntry}{ss:List (Bs×Bs)}(h:Came es vis ss):ss.length=vis.length:=by simpa using congrArg dZ h.keys
theorem Came.lt{es vis:List MapEntry}{ss:List (Bs×Bs)}(h:Came es vis ss){e:MapEntry}(he:e∈es)(hn:e.born∉vis.map (·.born)):vis.length<es.length:=by
 have:=zrS (l:=e.born::vis.map (·.born)) (m:=es.map (·.born)) (dM.2 ⟨hn,h.nd⟩) fun x hx=>by
  rcases aL.1 hx with rfl|hx
  ·exact bF.2 ⟨e,he,rfl⟩
  ·obtain⟨y,hy,rfl⟩:=bF.1 hx;exact bF.2 ⟨y,h.sub y hy,rfl⟩
 simp only[aS,aI]at this;omega
theorem Came.all{es vis:List MapEntry}{ss:List (Bs×Bs)}(h:Came es vis ss)(hnd:(es.map (·.born)).Nodup)(ha:∀e∈es,e.born∈vis.map (·.born)):(ss.map encM).Perm (es.map (·.key)):=by
 rw[h.keys]
 have hb:(vis.map (·.born)).Perm (es.map (·.born)):=ykL h.nd hnd fun x=>by
  constructor
  ·intro hx;obtain⟨y,hy,rfl⟩:=bF.1 hx;exact bF.2 ⟨y,h.sub y hy,rfl⟩
  ·intro hx;obtain⟨y,hy,rfl⟩:=bF.1 hx;exact ha y hy
 have hf:∀e∈es,(es.find? fun x=>x.born==e.born)=some e:=fun e he=>find_born e es hnd he;have e1:∀l:List MapEntry,(∀e∈l,e∈es)->l.map (·.key)=(l.map (·.born)).map fun k=>((es.find? fun x=>x.born==k).map (·.key)).getD undef:=fun l hl=>by rw[eA];refine List.map_congr_left fun e he=>?_;simp only[Function.comp,hf e (hl e he),Option.map_some,Option.getD_some]
 rw[e1 vis h.sub,e1 es fun e he=>he];exact hb.map _
set_option maxRecDepth 100000 in
set_option maxHeartbeats 2000000 in
theorem keysM_in(F:Fence)(n:Nat)(hf:F.fn 211)(hro:F.round=none)(hn:1<=n)(l Bm b ck:Nat)(es:List MapEntry)(J Jx:List (Bs×Bs)->World->Prop)(W:World)(hJ:AbidesFrom W.heap.size J) (hY:∀pre x W1,J pre W1->pre.length<es.length->YieldAt F (n-1) aB l #[encM x] W1 fun e W'=>(e = .returned (.bool true)/\J (pre++[x]) W'/\KeepsWalks W1 W')∨(e = .returned (.bool false)/\Jx (pre++[x]) W')) (hm:W.cell? ⟨Bm,0,none⟩=some (.map (some b))) (hb:W.heap[b]? = some (.map es.toArray ck)) (hold:∀x∈es,x.born<ck) (hnd:(es.map (·.born)).Nodup) (hk:∀e∈es,∃x,e.key=encM x) (h0:J [] W):
  CallsIn F n aB 211 #[.func (.yield l) #[] #[],.pointer (some ⟨Bm,0,none⟩)] W fun e W'=>(∃v,e = .returned v)/\((∃ss:List (Bs×Bs),(ss.map encM).Perm (es.map (·.key))/\J ss W')∨(∃pre,True/\Jx pre W')):=by
 refine callsIn_of_wp Tryz.func211 rfl hf ?_ hro;simp only[Tryz.ntmps211,dD,aS,bZ,iH,iI,fY,fZ,gV,gH,bR,bL];have hbl:b<W.heap.size:=(aR.1 hb).1;have hty:Tryz.prog.underlying 126=some (.map 75 157):=by kernel_rfl
 gi_wp2_with (first
  |(gi_at_range;refine ytB _ rfl _ 126 75 157 rfl hty b ck es.toArray rfl hb ?_)
  |gi_in)
 go_frame
 gi_loopw [3] (fun _ wr=>∃(vis:List MapEntry) (ss:List (Bs×Bs)),wr.heap[W.heap.size]? = some (.mapIter (some b) ck (vis.map (·.born)).toArray ck)/\wr.heap[b]? = some (.map es.toArray ck)/\Came es vis ss/\J ss wr)
  (fun _ wr=>itLeft W.heap.size es.length wr)
 case atStart=>exact⟨[],[],World.alloc_heap_new W _,(Below.heap_alloc W _ b hbl).trans hb,⟨.nil,fun _ h=>(by cases h),rfl⟩,hJ [] W _ none h0 (World.grownBy_alloc W _ none) (fun r e=>by cases e)⟩
 case round=>
  obtain⟨vis,ss,h1,h2,hC,hJs⟩:=hrel
  gi_wp2_with (first
   |(gi_at_next;refine yxB _ rfl _ rfl b W.heap.size ck es _ rfl h1 h2 hold hnd ?_ ?_)
   |gi_in)
  ·intro hall
   gi_wp2
   go_end0
   exact⟨⟨_,rfl⟩,.inl ⟨ss,hC.all hnd (by simpa using hall),hJs⟩⟩
  ·intro e w2 he hns hg2 h3 h4 hen;have hns:e.born∉vis.map (·.born):=by simpa using hns
   have hJ2:J ss w2:=hJ ss wr w2 (some W.heap.size) hJs hg2 (fun r e=>by cases e;exact⟨aK _,_,h1,rfl⟩);have hlt:=hC.lt he hns;obtain⟨x,hx⟩:=hk e he;rw[hx]at hen ⊢;simp only[encM]at hen ⊢
   gi_wp2
   obtain⟨w3,hw3⟩:∃w3,w2.alloc (.cells #[.string ⟨x.1.toArray⟩,.string ⟨x.2.toArray⟩] 75)=w3:=⟨_,rfl⟩;have hg3:w2.grownBy w3 none:=by rw[<-hw3];exact World.grownBy_alloc w2 _ none
   have hJ3:J ss w3:=hJ ss w2 w3 none hJ2 hg3 (fun r e=>by cases e);have h3:=(hg3.block _ (aR.1 h3).1 (by simp)).trans h3;have h4:=(hg3.block _ (aR.1 h4).1 (by simp)).trans h4;rw[hw3];clear hw3;obtain⟨fn,tmps,assign,body,hy,hR⟩:=hY ss x w3 hJ3 (by rw[hC.len];exact hlt);have hy:(Instr.yield l #[.agg #[.string ⟨x.1.toArray⟩,.string ⟨x.2.toArray⟩]]).run aB w3=_:=hy;rw[hy]
   gi_wp2
   refine hR.mono ?_;rintro e' W3 (⟨rfl,hJ3,hk3⟩|⟨rfl,hJx3⟩)
   ·gi_wp2
    have h5:=hk3.same _ _ h3 rfl;have h6:=hk3.same _ _ h4 rfl
    go_roundw
    case rel=>
     refine⟨vis++[e],ss++[x],?_,h6,⟨?_,fun y hy=>?_,?_⟩,hJ3⟩
     ·rw[h5];simp only[cN,bG,List.map_nil]
     ·rw[cN,List.nodup_append];refine⟨hC.nd,by simp,fun p hp q hq=>?_⟩;have hq:q=e.born:=by simpa using hq
      subst hq;exact fun e'=>hns (by rw[<-e'];exact hp)
     ·rcases List.mem_append.1 hy with hy|hy
      ·exact hC.sub y hy
      ·rw[List.mem_singleton.1 hy];exact he
     ·rw[cN,cN,hC.keys];simp[hx]
    case measure=>unfold itLeft;rw[h5,h1];simp only[dD,aI,aD,aS,bZ];omega
   ·gi_wp2
    refine bodyPost_ret (results_none rfl _ _ _) rfl ?_;exact⟨⟨_,rfl⟩,.inr ⟨ss++[x],trivial,hJx3⟩⟩
theorem ysB(F:Fence)(n:Nat)(hf:F.fn 211)(hro:F.round=none)(hn:1<=n)(Bm b ck:Nat)(es:List MapEntry)(w:World)(hB:Bm<w.heap.size) (hm:w.cell? ⟨Bm,0,none⟩=some (.map (some b))) (hb:w.heap[b]? = some (.map es.toArray ck)) (hold:∀x∈es,x.born<ck) (hnd:(es.map (·.born)).Nodup) (hk:∀e∈es,∃x,e.key=encM x):
  SeqStopsK F n aB 211 #[.pointer (some ⟨Bm,0,none⟩)] (fun x=>#[encM x]) KeepsWalks (fun ss=>(ss.map encM).Perm (es.map (·.key))) (fun _=>True) es.length w:=fun l J Jx W hW hJ _ hY h0=>
 keysM_in F n hf hro hn l Bm b ck es J Jx W hJ hY ((hW.cell (p:=⟨Bm,0,none⟩) hB).trans hm) ((hW.block b (aR.1 hb).1).trans hb) hold hnd hk h0
theorem yrF{P:Program}{F:Fence}{n:Nat}{α:Type}{g:Operand}{ps:Array Tmp}{assign body:Code}{Q:Exit->Act->World->Prop}{a:Act}{w:World}(hro:F.round=none)(h1:1<=n){gf:Nat}{lb:Array Value}(hg:a.eval g = .func (.func gf) #[] lb)(hFg:F.fn gf)(eg:∀args w,(callFunc gf args).run P w = .ok (.enter gf args) w) {encs:α->Array Value} {S:List α->Prop} {N:Nat} (hseq:SeqStopsK F (n-1) P gf lb encs KeepsWalks S (fun _=>True) N w) (hps:∀x,(encs x).size=ps.size) (I:List α->World->Prop) (hI:OwnFrom w.heap.size I) (h0:I [] w) (cel:α->Array Value) (t:TypeId) (a₁:α->Nat->Act) (hassign:∀(l:Nat) (x:α) (W:World) (K:Act->World->Prop),(∀W',W.grownBy W' none->W'.heap[W.heap.size]? = some (.cells (cel x) t (0,0))->K (a₁ x W.heap.size) W') ->
   assign.wpIn (F.inRound l) (n-1-1) P (Exit.then K (fun _ _ _=>False)) { tmps:=(ps.zip (encs x)).foldl (fun t (p,v)=>t.setIfInBounds p v) a.tmps,defers:=[] } W)
  (hbody:∀(l:Nat) (pre:List α) (x:α) (b:Nat) (W:World),I pre W->pre.length<N->W.heap[b]? = some (.cells (cel x) t (0,0))->w.heap.size<=b->body.wpIn (F.inRound l) (n-1-1) P (fun e _ W3=>e = .normal/\KeepsOthers W W3/\KeepsWalks W W3/\I (pre++[x]) W3) (a₁ x b) W)
  (hdone:∀(D:Nat) (xs:List α) (W:World),w.heap.size<=D->S xs->I xs W->W.heap[D]? = some (.deferred (some []))->Q .normal { a with defers:={ target:=.collected D,args:=#[] }::a.defers } W):(Code.rangeFunc g ps assign body).wpIn F n P Q a w:=by
 refine wpIn_rangeFunc ?_;intro fn hfn;rw[hro];obtain⟨rec,hrec⟩:∃rec:LoopState->Option Code->Loop,rec=fun st pe=>{ state:=st,pending:=pe,fn,tmps:=a.tmps,params:=ps,assign,body,defers:=w.heap.size }:=⟨_,rfl⟩;obtain⟨W1,hW1⟩:∃W1,(w.alloc (.deferred (some []))).alloc (.loop (rec .ready none))=W1:=⟨_,rfl⟩;have hL1:W1.heap[w.heap.size+1]? = some (.loop (rec .ready none)):=by rw[<-hW1];have:=World.alloc_heap_new (w.alloc (.deferred (some []))) (.loop (rec .ready none));rwa[World.size_alloc]at this
 have hK1:W1.heap[w.heap.size]? = some (.deferred (some [])):=by rw[<-hW1];exact(Below.heap_alloc _ _ _ (by simp)).trans (World.alloc_heap_new w _)
 have hI1:I [] W1:=by rw[<-hW1];exact hI.alloc _ (hI.alloc _ h0)
 have hb1:Below w.heap.size w W1:=by rw[<-hW1];exact((Below.refl _ w).alloc (aK _) _).alloc (by simp) _
 refine⟨w.heap.size+1,[{ target:=.collected w.heap.size,args:=#[] }],W1,{ target:=.fn (.func gf) lb,args:=#[.func (.yield (w.heap.size+1)) #[] #[]] },W1,gf,
  #[.func (.yield (w.heap.size+1)) #[] #[]]++lb,W1,?_,?_,?_,?_,fun _=>h1,?_⟩
 ·rw[<-hW1,hrec];exact run_enterLoop_outer _ _ _ _ _
 ·simp only[resolve,hg];simp[go_sem]
 ·intro f' hf';simp[Target.leads]at hf';subst hf';exact hFg
 ·simp[invoke,go_sem,eg]
 ·refine(hseq (w.heap.size+1)
   (fun pre W=>I pre W/\W.heap[w.heap.size+1]? = some (.loop (rec .ready none))/\W.heap[w.heap.size]? = some (.deferred (some [])))
   (fun _ _=>False) W1 hb1
   (fun s A B row hs hg' hr=>⟨hI s A B row hs.1 hg' (fun r e=>by obtain⟨hB,o,ho,hw⟩:=hr r e;exact⟨by rw[<-hW1]at hB;simp at hB;omega,o,ho,Obj.not_cells_of_walk hw⟩),(grownBy_keeps hg' (fun r e=>(hr r e).2) hs.2.1 rfl).trans hs.2.1,(grownBy_keeps hg' (fun r e=>(hr r e).2) hs.2.2 rfl).trans hs.2.2⟩)
   (fun _ _ _ _ h _ _=>h) ?_ ⟨hI1,hL1,hK1⟩).mono ?_
  ·rintro pre x W ⟨hi,hl,hk⟩ hlen;have hlt:w.heap.size+1<W.heap.size:=(aR.1 hl).1;have hy:=run_yield (P:=P) (args:=encs x) hl (by rw[hrec];exact hps x);rw[hrec]at hy;refine⟨fn,_,assign,body,hy,roundIn_of_wpIn hfn (hassign _ x W _ fun W' hg' hc'=>?_)⟩;have hl':W'.heap[w.heap.size+1]? = some (.loop (rec .ready none)):=(hg'.block _ hlt (by simp)).trans hl;have hk':W'.heap[w.heap.size]? = some (.deferred (some [])):=(hg'.block _ (by omega) (by simp)).trans hk;have hi':I pre W':=hI pre W W' none hi hg' (fun r e=>by cases e);have hsz':=hg'.size;refine⟨_,run_beginRound hl' (by rw[hrec]),?_⟩;have hlt':w.heap.size+1<W'.heap.size:=by omega
   have hl2:(W'.putObj (w.heap.size+1) (.loop { rec .ready none with state:=.busy })).heap[w.heap.size+1]? = some (.loop { rec .ready none with state:=.busy }):=World.putObj_heap_same hlt';have hk2:(W'.putObj (w.heap.size+1) (.loop { rec .ready none with state:=.busy })).heap[w.heap.size]? = some (.deferred (some [])):=(World.putObj_heap_other (by omega)).trans hk';have hc2:(W'.putObj (w.heap.size+1) (.loop { rec .ready none with state:=.busy })).heap[W.heap.size]? = some (.cells (cel x) t (0,0)):=(World.putObj_heap_other (by omega)).trans hc';refine wpIn_mono (hbody _ pre x W.heap.size _ (hI.putObj _ hi' (by omega) hl' rfl) hlen hc2 (by omega)) ?_;rintro e a3 W3 ⟨rfl,hk3,hw3,hi3⟩;have hl3:=hk3.same _ _ hl2 rfl;have hr:=run_endRound (P:=P) none hl3;rw[hrec]at hr;have hw0:KeepsWalks W W':=KeepsWalks.of_grownBy hg' (fun k o e=>by cases e);refine⟨_,_,hr,.inl ⟨rfl,⟨hI.putObj _ hi3 (by omega) hl3 rfl,?_,(World.putObj_heap_other (by omega)).trans (hk3.same _ _ hk2 rfl)⟩,((hw0.trans (KeepsWalks.putObj _ hl' rfl)).trans hw3).trans (KeepsWalks.putObj _ hl3 rfl)⟩⟩;rw[hrec];exact World.putObj_heap_same (aR.1 hl3).1
  ·rintro e W2 ⟨⟨v,rfl⟩,(⟨xs,hS,hi,hl,hk⟩|⟨pre,_,hf⟩)⟩
   ·exact⟨none,_,by have:=run_endLoop (P:=P) hl (by rw[hrec];simp);rw[hrec]at this;exact this,hdone _ xs _ (aK _) hS (hI.putObj _ hi (by omega) hl rfl) ((World.putObj_heap_other (by omega)).trans hk)⟩
   ·exact hf.elim
theorem ygP{W W':World}{base:Nat}{e:TypeId}{size:Nat}{v:Value}{k:Nat}{xs:LV}{row:Option Nat}(h:W.ownsRow base e size v k xs)(hg:W.grownBy W' row) (hr:∀r,row=some r->∃o:Obj,W.heap[r]? = some o/\o.isCells=false):W'.ownsRow base e size v k xs:=by
 refine h.kept hg ?_;rcases h.2 with⟨rfl,_⟩|⟨g,cap,cur,rfl,_,hgb,_⟩
 ·exact .inl rfl
 ·refine .inr fun e'=>?_;obtain⟨o,ho,hw⟩:=hr g (by simpa[Value.ownBlock]using e'.symm);rw[hgb]at ho;cases ho;cases hw
theorem ymY{W:World}{base:Nat}{e:TypeId}{size:Nat}{v:Value}{k:Nat}{xs:LV}(h:W.ownsRow base e size v k xs){g:Nat}(hg:some g=v.ownBlock):base<=g/\∃cur,W.heap[g]? = some (.cells cur e (0,0)):=by
 rcases h.2 with⟨rfl,_⟩|⟨g',cap,cur,rfl,hb,hgb,_⟩
 ·simp[Value.ownBlock]at hg
 ·have:g=g':=by simpa[Value.ownBlock]using hg
  subst this;exact⟨hb,cur,hgb⟩
theorem yyE{W W':World}{k:Nat}{c:Array Value}{t:TypeId}{fz:Nat×Nat}{row:Option Nat}(h:W.heap[k]? = some (.cells c t fz))(hg:W.grownBy W' row) (hr:∀r,row=some r->∃o:Obj,W.heap[r]? = some o/\o.isCells=false):W'.heap[k]? = some (.cells c t fz):=by refine(hg.block k (aR.1 h).1 fun e=>?_).trans h;obtain⟨o,ho,hw⟩:=hr k e.symm;rw[h]at ho;cases ho;cases hw
theorem boxM{W:World}{B:Nat}{v:Value}{t:TypeId}(h:W.heap[B]? = some (.cells #[v] t (0,0))):W.cell? ⟨B,0,none⟩=some v/\W.frozen? ⟨B,0,none⟩=false:=by constructor<;>simp[World.cell?,World.frozen?,h]
theorem boxM_set{W:World}{B:Nat}{v:Value}{t:TypeId}(v':Value)(h:W.heap[B]? = some (.cells #[v] t (0,0))):(W.setCell ⟨B,0,none⟩ v').heap[B]? = some (.cells #[v'] t (0,0)):=by obtain⟨hlt,hk⟩:=aR.1 h;show(W.heap.modify B _)[B]? = _;rw[Array.getElem?_eq_getElem (by rw[Array.size_modify];exact hlt),Array.getElem_modify_self,hk];rfl
theorem ynR{W:World}{b:Nat}{x y:Value}{t:TypeId}{fz:Nat×Nat}(h:W.heap[b]? = some (.cells #[x,y] t fz)):∀j u,[x,y][j]? = some u->W.cell? ((⟨b,0,none⟩:Addr).add j)=some u:=by
 intro j u hj
 match j,hj with
 |0,hj=>simp only[eT,Option.some.injEq]at hj;subst hj;show W.cell? ⟨b,0+0,none⟩=_;unfold World.cell?;simp only[h];rfl
 |1,hj=>simp only[List.getElem?_cons_succ,eT,Option.some.injEq]at hj;subst hj;show W.cell? ⟨b,0+1,none⟩=_;unfold World.cell?;simp only[h];rfl
def ltM(x y:Bs×Bs):Bool:=Op.bytesLess x.1 y.1||(x.1==y.1&&Op.bytesLess x.2 y.2)
def leM(x y:Bs×Bs):Bool:=!(ltM y x)
theorem yrY{x y:Bs×Bs}:ltM x y=true↔x.1<y.1∨(x.1=y.1/\x.2<y.2):=by unfold ltM;rw[bytesLess_eq,bytesLess_eq,Bool.or_eq_true,aH,zD,zD,beq_iff_eq]
theorem xeC{x y:Bs×Bs}:ltM x y=false↔y.1<x.1∨(y.1=x.1/\y.2<=x.2):=by
 rw[<-Bool.not_eq_true,yrY];constructor
 ·intro h;by_cases h1:y.1<x.1
  ·exact .inl h1
  ·have h2:¬x.1<y.1:=fun h3=>h (.inl h3);have e:y.1=x.1:=fI (fE.1 h2) (fE.1 h1);exact .inr ⟨e,fE.1 fun h3=>h (.inr ⟨e.symm,h3⟩)⟩
 ·rintro(h|⟨h,k⟩) (g|⟨g,l⟩)
  ·exact dV _ (eK h g)
  ·rw[g]at h;exact dV _ h
  ·rw[h]at g;exact dV _ g
  ·exact fE.2 k l
theorem yiW{x y z:Bs×Bs}(h:ltM x y=true)(k:ltM y z=true):ltM x z=true:=by
 rw[yrY]at *;rcases h with h|⟨h1,h2⟩
 ·rcases k with k|⟨k1,k2⟩
  ·exact .inl (eK h k)
  ·rw[k1]at h;exact .inl h
 ·rcases k with k|⟨k1,k2⟩
  ·rw[<-h1]at k;exact .inl k
  ·exact .inr ⟨h1.trans k1,eK h2 k2⟩
theorem zzZ(x y z:Bs×Bs)(h:leM x y=true)(k:leM y z=true):leM x z=true:=by
 unfold leM at *;rw[bE,xeC]at *;rcases h with h|⟨h1,h2⟩
 ·rcases k with k|⟨k1,k2⟩
  ·exact .inl (eK h k)
  ·rw[k1]at h;exact .inl h
 ·rcases k with k|⟨k1,k2⟩
  ·rw[<-h1]at k;exact .inl k
  ·exact .inr ⟨h1.trans k1,List.le_trans h2 k2⟩
theorem xeV(x:Bs×Bs):ltM x x=false:=xeC.2 (.inr ⟨rfl,List.le_refl _⟩)
theorem leM_of{x y:Bs×Bs}(h:ltM x y=true):leM x y=true:=by
 unfold leM;rw[bE];cases hk:ltM y x with
 |false=>rfl|true=>have:=yiW h hk;rw[xeV]at this;cases this
theorem ydC(x y:Bs×Bs):leM x y=true∨leM y x=true:=by
 cases h:ltM x y with
 |true=>exact .inl (leM_of h)|false=>right;unfold leM;rw[h];rfl
theorem ymT{x y:Bs×Bs}(h:leM x y=true)(k:leM y x=true):x=y:=by
 unfold leM at *;rw[bE,xeC]at *;rcases h with h|⟨h1,h2⟩
 ·rcases k with k|⟨k1,k2⟩
  ·exact absurd (eK h k) (dV _)
  ·rw[k1]at h;exact absurd h (dV _)
 ·rcases k with k|⟨k1,k2⟩
  ·rw[h1]at k;exact absurd k (dV _)
  ·exact Prod.ext h1 (fI h2 k2)
def ynS(xs:List (Bs×Bs)):List (Bs×Bs):=ywY leM xs
def cmp2(x y:Bs×Bs):Int:=if Lib.compareBytes x.1 y.1=0 then Lib.compareBytes x.2 y.2 else Lib.compareBytes x.1 y.1
theorem yvH:∀(x y:Bs),Lib.compareBytes x y=0↔x=y
 |[],[]=>by simp[Lib.compareBytes]
 |[],_::_=>by simp[Lib.compareBytes]
 |_::_,[]=>by simp[Lib.compareBytes]
 |a::x,b::y=>by
  have h5:Lib.compareBytes (a::x) (b::y)=if a<b then -1 else if b<a then 1 else Lib.compareBytes x y:=by rw[Lib.compareBytes]
  rw[h5];by_cases h1:a<b
  ·rw[zI h1];refine⟨fun h=>by omega,fun h=>?_⟩;rw[(List.cons.inj h).1]at h1;exact absurd h1 (UInt8.lt_irrefl _)
  ·by_cases h2:b<a
   ·rw[zH h1,zI h2];refine⟨fun h=>by omega,fun h=>?_⟩;rw[(List.cons.inj h).1]at h2;exact absurd h2 (UInt8.lt_irrefl _)
   ·have h3:a=b:=UInt8.le_antisymm (UInt8.not_lt.1 h2) (UInt8.not_lt.1 h1);rw[zH h1,zH h2,yvH x y,h3];exact⟨fun h=>by rw[h],fun h=>(List.cons.inj h).2⟩
theorem ylT(x y:Bs×Bs):ltOf cmp2 x y=ltM x y:=by
 have h1:=yuK x.1 y.1;have h2:=yuK x.2 y.2;have hz:=yvH x.1 y.1;unfold ltOf cmp2;rw[Bool.eq_iff_iff,zD,yrY,<-decide_eq_decide.1 h1,<-decide_eq_decide.1 h2,<-hz];by_cases h:Lib.compareBytes x.1 y.1=0
 ·rw[zI h];exact⟨fun k=>.inr ⟨h,k⟩,fun k=>k.elim (fun k=>by omega) fun k=>k.2⟩
 ·rw[zH h];exact⟨fun k=>.inl k,fun k=>k.elim id fun k=>absurd k.1 h⟩
theorem swo_cmp2:SWO (ltOf cmp2) where
 irrefl x:=by rw[ylT];exact xeV x
 trans x y z h1 h2:=by rw[ylT]at *;exact yiW h1 h2
 ntrans x y z h1 h2:=by
  rw[ylT]at *;have:=zzZ z y x (by unfold leM;rw[h2];rfl) (by unfold leM;rw[h1];rfl);unfold leM at this
  rwa[bE]at this
set_option maxRecDepth 100000 in
set_option maxHeartbeats 1000000 in
theorem cmpM(x y:Bs×Bs)(W:World):Calls aB 126 #[.agg (enc2 x).toArray,.agg (enc2 y).toArray] W fun e w'=>e = .returned (.int .i64 (cmp2 x y))/\∃q os',w'=grow (W.drewN q) os':=by
 have hcon:=fun(a b:Bs) W'=>Tryz.strings_Compare ⟨a.toArray⟩ ⟨b.toArray⟩ W';change ∀a b W',Calls aB 90 _ _ _ at hcon;change ∀a b W',Calls _ _ _ _ fun e w'=>e = .returned (.int .i64 (Lib.compareBytes a b))/\w'=W' at hcon;have h1:=hcon x.1 y.1;have h2:=hcon x.2 y.2;clear hcon;show Calls _ _ #[.agg #[.string ⟨x.1.toArray⟩,.string ⟨x.2.toArray⟩],.agg #[.string ⟨y.1.toArray⟩,.string ⟨y.2.toArray⟩]] _ _;unfold cmp2;generalize Lib.compareBytes x.1 y.1=r1 at h1 ⊢;generalize Lib.compareBytes x.2 y.2=r2 at h2 ⊢
 go_enter Tryz.func126,Tryz.ntmps126
 go_wp2_with (first
  |(go_at_call 90;refine(h1 _).mono ?_;rintro e w' ⟨rfl,rfl⟩)
  |(go_at_call 90;refine(h2 _).mono ?_;rintro e w' ⟨rfl,rfl⟩))
 all_goals first
  |(have hx:=‹(r1 != 0)=true›;rw[‹r1=0›]at hx;cases hx;done)
  |(exact absurd (by simpa using ‹(r1 != 0)=false›) ‹¬r1=0›)
  |(exact absurd (by simpa using ‹¬(r1 != 0)=true›) ‹¬r1=0›)
  |(exact⟨rfl,0,_,by rw[alloc_eq_grow,alloc_eq_grow,grow_grow];rfl⟩)
  |(go_ret;exact⟨rfl,0,_,by rw[alloc_eq_grow,alloc_eq_grow,grow_grow];rfl⟩)
def RowM(base:Nat)(W:World)(v:Value)(ss:List (Bs×Bs)):Prop:=(v = .slice none 0 0/\ss=[])∨∃g cap rs,v = .slice (some ⟨g,0,none⟩) ss.length cap/\base<=g/\ss.length<=cap/\W.heap[g]? = some (.cells (ss.flatMap enc2++rs).toArray 75 (0,0))/\(ss.flatMap enc2++rs).length=cap*2
theorem rowM_of{base:Nat}{W:World}{v:Value}{ss:List (Bs×Bs)}(h:W.ownsRow base 75 2 v ss.length (ss.flatMap enc2)):RowM base W v ss:=by
 obtain⟨_,⟨rfl,h0⟩|⟨g,cap,cur,rfl,h1,h2,h3,h4,h5,h6⟩⟩:=h
 ·exact .inl ⟨rfl,aT h0⟩
 ·have e:ss.flatMap enc2++cur.toList.drop (ss.length*2)=cur.toList:=by rw[<-h6];exact List.take_append_drop _ _
  exact .inr ⟨g,cap,cur.toList.drop (ss.length*2),rfl,h1,h3,by rw[e];exact h2,by rw[e];simpa using h5⟩
theorem sortM_c{base:Nat}{W:World}{v:Value}{ss:List (Bs×Bs)}(h:RowM base W v ss)(hl:ss.length<=1048576)(hB:base<=W.heap.size):Calls aB 210 #[v,.func (.func 126) #[] #[]] W fun e W'=>e = .returned (.tuple #[])/\RowM base W' v (ynS ss)/\Below base W W':=by
 have hsl:(ynS ss).length=ss.length:=(zgN leM ss).length_eq;rcases h with⟨rfl,rfl⟩|⟨g,cap,rs,rfl,h1,h2,h3,h4⟩
 ·refine(AnyF.slices_SortFunc_none Tryz.sortQ none 0 (.func (.func 126) #[] #[]) W).mono ?_;rintro e W' ⟨rfl,rfl⟩;exact⟨rfl,.inl ⟨rfl,rfl⟩,Below.refl _ _⟩
 ·have hg:g<W.heap.size:=(aR.1 h3).1;have h3':W.heap[g]? = some (.cells ((ss.flatMap enc2).map id++rs).toArray 75 (0,0)):=by rw[eQ];exact h3
  have hh:HoldsK enc2 2 W g 0 ss.toArray:=by unfold HoldsK;rw[ycP];exact holds_of h3' (.inl rfl)
  have hc:=AnyQ.slices_SortFunc Tryz.sortQ 2 Tryz.isAgg75 Tryz.sizeOf75 enc2 ynE ylR cmp2 swo_cmp2 126 #[] g 0 cap ss.toArray W (enters_of Tryz.func126 (by kernel_rfl) rfl) (fun _ _ _ _ x y=>cmpM x y _) hh hg (by simp;omega);simp only[dD]at hc;refine hc.mono ?_;rintro e W' ⟨rfl,d',q,os,hp,hs,rfl⟩;have hd:d'.toList=ynS ss:=by
   obtain⟨p1,_,p2⟩:=hp;have hp2:d'.toList.Perm ss:=by
    have e1:d'.extract 0 ss.length=d':=by have hz:d'.size=ss.length:=(by simpa using p1);rw[<-hz];simp
    have e2:ss.toArray.extract 0 ss.length=ss.toArray:=by simp
    rw[e1,e2]at p2;simpa using p2
   refine zvV (R:=fun x y=>leM x y=true) (fun a _ b _ h k=>ymT h k) (hp2.trans (zgN _ ss).symm) ?_ (zjE ydC zzZ ss);rw[List.pairwise_iff_getElem];intro i j hi hj hij;have hi':i<d'.size:=by simpa using hi
   have hj':j<d'.size:=by simpa using hj
   have h5:=hs i j (bS _) hij (by have hz:d'.size=ss.length:=(by simpa using p1);omega);rw[ylT,getElem!_pos d' j hj',getElem!_pos d' i hi']at h5;show leM _ _=true;unfold leM;simp only[Array.getElem_toList];rw[h5];rfl
  have hd2:d'=(ynS ss).toArray:=by rw[<-hd]
  subst hd2;unfold sortWorldK putRowK;rw[ycP];obtain⟨g1,g2,g3⟩:=zuR (enc:=id) (ds:=(ynS ss).flatMap enc2) (q:=q) (os:=os) h3' (by rw[eQ,zmW,zmW,hsl]);rw[eQ]at g1;refine⟨rfl,.inr ⟨g,cap,rs,by rw[hsl],h1,by rw[hsl];exact h2,g1,?_⟩,?_⟩
  ·rw[<-h4];simp only[aD,zmW,hsl]
  ·exact⟨rfl,rfl,rfl,g3,fun k hk=>g2 k (by omega) (by omega)⟩
set_option maxRecDepth 100000 in
set_option maxHeartbeats 2000000 in
theorem ywN(F:Fence)(n:Nat)(hf:F.fn 276)(hg:F.fn 211)(hro:F.round=none)(hn:3<=n)(Bm b ck:Nat)(es:List MapEntry)(w:World)(hm:w.cell? ⟨Bm,0,none⟩=some (.map (some b)))(hb:w.heap[b]? = some (.map es.toArray ck))(hB:Bm<w.heap.size) (hold:∀x∈es,x.born<ck) (hnd:(es.map (·.born)).Nodup) (hk:∀e∈es,∃x,e.key=encM x) (hlen:es.length<=1048576):
  CallsIn F n aB 276 #[.slice none 0 0,.func (.func 211) #[] #[.pointer (some ⟨Bm,0,none⟩)]] w fun e w'=>∃(v:Value) (ss:List (Bs×Bs)),e = .returned v/\(ss.map encM).Perm (es.map (·.key))/\w'.ownsRow w.heap.size 75 2 v ss.length (ss.flatMap enc2)/\Below w.heap.size w w':=by
 refine callsIn_of_wp_marks Tryz.func276 rfl hf ?_ hro;simp only[Tryz.ntmps276,dD,aS,bZ,iH,iI,fY,fZ,gV,gH,bR,bL]
 gi_wp2
 obtain⟨W0,hW0⟩:∃W0,w.alloc (.cells #[.slice none 0 0] 72)=W0:=⟨_,rfl⟩;have hs0:W0.heap.size=w.heap.size+1:=by rw[<-hW0];simp
 have hB0:Below w.heap.size w W0:=by rw[<-hW0];exact(Below.refl _ w).alloc (aK _) _
 have hc0:W0.heap[w.heap.size]? = some (.cells #[.slice none 0 0] 72 (0,0)):=by rw[<-hW0];exact World.alloc_heap_new w _
 have hbl:=(aR.1 hb).1;rw[hW0];clear hW0;have hne:∀{cur:Array Value} {c:Array Value},Obj.cells c 72 (0,0)≠Obj.cells cur 75 (0,0):=fun e=>by have:=(Obj.cells.inj e).2.1;exact absurd this (by decide)
 refine yrF hro (by omega) (gf:=211) (lb:=#[.pointer (some ⟨Bm,0,none⟩)]) rfl hg (enters_of Tryz.func211 (by kernel_rfl) rfl)
  (ysB F _ hg hro (by omega) Bm b ck es W0 (by omega) ((hB0.cell (p:=⟨Bm,0,none⟩) hB).trans hm) ((hB0.block b hbl).trans hb) hold hnd hk) (fun _=>rfl)
  (fun pre W=>(∃v,W.heap[w.heap.size]? = some (.cells #[v] 72 (0,0))/\W.ownsRow w.heap.size 75 2 v pre.length (pre.flatMap enc2))/\Below w.heap.size w W)
  (OwnFrom.and (fun pre A B row hs hg' hr=>by
   obtain⟨v,h1,h2⟩:=hs
   exact⟨v,yyE h1 hg' fun r e=>(hr r e).2,ygP h2 hg' fun r e=>(hr r e).2⟩) (ownFrom_below (aK _) (by omega)))
  ⟨⟨_,hc0,⟨rfl,.inl ⟨rfl,rfl⟩⟩⟩,hB0⟩ (fun x=>(enc2 x).toArray) 75
  (fun x q=>{ tmps:=#[.slice none 0 0,.func (.func 211) #[] #[.pointer (some ⟨Bm,0,none⟩)],.pointer (some ⟨w.heap.size,0,none⟩),undef,.slice none 0 0,.pointer (some ⟨q,0,none⟩),.func (.func 211) #[] #[.pointer (some ⟨Bm,0,none⟩)],encM x,undef,undef,undef,undef,undef],defers:=[] }) ?assign ?body ?done
 case assign=>
  intro l x W K hK
  gi_wp2
  exact hK _ (World.grownBy_alloc W _ none) (World.alloc_heap_new W _)
 case body=>
  rintro l pre x q W ⟨⟨v,hv,hrow⟩,hbw⟩ hlen2 hq hqs;obtain⟨hc2,hf2⟩:=boxM hv;have hBlt:w.heap.size<W.heap.size:=(aR.1 hv).1;have hq0:W.cell? ⟨q,0,none⟩=some (.string ⟨x.1.toArray⟩):=ynR (x:=str x.1) (y:=str x.2) hq 0 _ rfl;have hq1:W.cell? ⟨q,1,none⟩=some (.string ⟨x.2.toArray⟩):=ynR (x:=str x.1) (y:=str x.2) hq 1 _ rfl;obtain⟨i0,hi,hz0,hz1,hz2⟩:=info_parts (P:=aB) (e:=75) (z:=.agg #[.string ⟨#[]⟩,.string ⟨#[]⟩]) (size:=2) (bytes:=32) (by kernel_rfl);have hsl:Tryz.prog.underlying 72=some (.slice 75):=by kernel_rfl
  have hbs:=hbw.size
  gi_wp2_with (gi_at_builtin; refine wpListIn_append_own _ rfl _ _ 72 rfl w.heap.size 75 i0 (.agg #[.string ⟨#[]⟩, .string ⟨#[]⟩]) 2 32 hsl hi hz0 hz1 hz2 rfl (by decide) _ _ _ rfl (hrow.alloc _) ⟨W.heap.size, 0, none⟩ 1 1 (enc2 x) rfl rfl (ynR (x := str x.1) (y := str x.2) (World.alloc_heap_new _ _)) (ylR x) (by simp [maxLen]; omega) (by omega) (by simp; omega) ?_; intro v' w3 hown' hg3 hnil3
               have hv3:w3.heap[w.heap.size]? = some (.cells #[v] 72 (0,0)):=(hg3.block w.heap.size (by simp;omega) (fun e=>by obtain⟨_,cur,hc⟩:=ymY hrow e;rw[hv]at hc;cases hc)).trans ((Below.heap_alloc _ _ _ hBlt).trans hv);obtain⟨hc3,hf3⟩:=boxM hv3;obtain⟨g',cap',cur',rfl,hbase',hgb',hr1,hr2,hr3,hr4⟩:∃g' cap' cur',v' = .slice (some ⟨g',0,none⟩) (pre.length+1) cap'/\w.heap.size<=g'/\w3.heap[g']? = some (.cells cur' 75 (0,0))/\pre.length+1<=cap'/\cap'<=maxLen/\cur'.size=cap'*2/\cur'.toList.take ((pre.length+1)*2)=pre.flatMap enc2++enc2 x:=by
                rcases hown'.2 with⟨_,h0⟩|h'
                ·exact absurd h0 (by omega)
                ·exact h')
  obtain⟨w4,hw4⟩:∃w4,w3.setCell ⟨w.heap.size,0,none⟩ (.slice (some ⟨g',0,none⟩) (pre.length+1) cap')=w4:=⟨_,rfl⟩;have hg4:w3.grownBy w4 (some w.heap.size):=by rw[<-hw4];exact⟨rfl,rfl,rfl,by simp,fun k _ hk=>Below.heap_setCell _ _ _ k (fun e=>hk (by rw[e]))⟩
  have hv4:w4.heap[w.heap.size]? = some (.cells #[.slice (some ⟨g',0,none⟩) (pre.length+1) cap'] 72 (0,0)):=by rw[<-hw4];exact boxM_set _ hv3
  rw[hw4];clear hw4;have hsz3:=hg3.size;have hsz4:=hg4.size;rw[World.size_alloc]at hsz3
  have hoth:∀(k:Nat) (o:Obj),W.heap[k]? = some o->o.isCells=false->w4.heap[k]? = some o:=fun k o hk ho=>by
   have hkl:k<W.heap.size:=(aR.1 hk).1;refine(hg4.block k (by omega) fun e=>?_).trans ((hg3.block k (by simp;omega) fun e=>?_).trans ((Below.heap_alloc _ _ k hkl).trans hk))
   ·cases e;rw[hv]at hk;cases hk;cases ho
   ·obtain⟨_,cur,hc⟩:=ymY hrow e;rw[hk]at hc;cases hc;cases ho
  have hb3:Below w.heap.size w w3:=(hbw.alloc hbs _).grown hg3 (by simp;omega) (fun k e=>(ymY hrow e.symm).1);refine⟨⟨by omega,fun k o hk ho=>hoth k o hk ho⟩,⟨by omega,fun k o hk ho=>hoth k o hk (Obj.not_cells_of_walk ho)⟩,⟨_,hv4,hown'.kept hg4 (.inr fun e=>?_)⟩,hb3.grown hg4 hb3.size (fun k e=>by cases e;exact aK _)⟩;obtain⟨_,cur,hc⟩:=ymY hown' e.symm;rw[hv3]at hc;cases hc
 case done=>
  rintro D ss W hD hS ⟨⟨v,hv,hrow⟩,hbw⟩ hK;obtain⟨hc2,hf2⟩:=boxM hv
  gi_wp2
  refine⟨by simp,.inl ⟨_,_,rfl,run_takeDeferred hK,?_⟩⟩;have hg3:=grownBy_putObj' W D (.deferred none);exact⟨_,results_tmp rfl _ _ _,v,ss,rfl,hS,ygP hrow hg3 (fun r e=>by cases e;exact⟨_,hK,rfl⟩),hbw.grown hg3 hbw.size (fun k e=>by cases e;omega)⟩
set_option maxHeartbeats 2000000 in
theorem yrL(F:Fence)(n:Nat)(h0:F.fn 209)(hf:F.fn 276)(hg:F.fn 211)(hro:F.round=none)(hn:4<=n)(Bm b ck:Nat)(es:List MapEntry)(w:World)(hm:w.cell? ⟨Bm,0,none⟩=some (.map (some b)))(hb:w.heap[b]? = some (.map es.toArray ck))(hB:Bm<w.heap.size) (hold:∀x∈es,x.born<ck) (hnd:(es.map (·.born)).Nodup) (hk:∀e∈es,∃x,e.key=encM x) (hlen:es.length<=1048576):
  CallsIn F n aB 209 #[.func (.func 211) #[] #[.pointer (some ⟨Bm,0,none⟩)]] w fun e w'=>∃(v:Value) (ss:List (Bs×Bs)),e = .returned v/\(ss.map encM).Perm (es.map (·.key))/\w'.ownsRow w.heap.size 75 2 v ss.length (ss.flatMap enc2)/\Below w.heap.size w w':=by
 have h1:1<=n:=by omega
 have e1:∀args w,(callFunc 276 args).run aB w = .ok (.enter 276 args) w:=enters_of Tryz.func276 (by kernel_rfl) rfl;refine callsIn_of_wp Tryz.func209 rfl h0 ?_ hro;simp only[Tryz.ntmps209,dD,aS,bZ,iH,iI,fY,fZ,gV,gH,bR,bL]
 gi_wp2_with (gi_at_call 276;refine(ywN F (n-1) hf hg hro (by omega) Bm b ck es _ hm hb hB hold hnd hk hlen).mono ?_;rintro e w' ⟨v,ss,rfl,hp,hrow,hx⟩)
 go_ret
 exact⟨v,ss,rfl,hp,hrow,hx⟩
theorem encM_inj{x y:Bs×Bs}(h:encM x=encM y):x=y:=by
 have h2:[str x.1,str x.2].toArray=[str y.1,str y.2].toArray:=by injection h
 have h3:[str x.1,str x.2]=[str y.1,str y.2]:=by injection h2
 exact Prod.ext (ybN (List.cons.inj h3).1) (ybN (List.cons.inj (List.cons.inj h3).2).1)
theorem ytU{α β:Type}{f:α->β}(hf:∀x y,f x=f y->x=y):∀{l m:List α},(l.map f).Perm (m.map f)->l.Perm m
 |[],m,h=>by have:=h.length_eq;rw[aT (l:=m) (by simpa using this.symm)]
 |x::l,m,h=>by obtain⟨y,hy,e⟩:=bF.1 (h.mem_iff.1 (show f x∈(x::l).map f from aO));have e:=hf _ _ e;subst e;obtain⟨a,c,rfl⟩:=List.append_of_mem hy;have h2:((y::l).map f).Perm ((y::(a++c)).map f):=h.trans (List.Perm.map f List.perm_middle);exact(List.Perm.cons y (ytU hf (List.Perm.cons_inv h2))).trans List.perm_middle.symm
set_option maxHeartbeats 2000000 in
theorem yyS(Bm b ck:Nat)(es:List MapEntry)(ks:List (Bs×Bs))(w:World)(hm:w.cell? ⟨Bm,0,none⟩=some (.map (some b)))(hb:w.heap[b]? = some (.map es.toArray ck))(hB:Bm<w.heap.size) (hold:∀x∈es,x.born<ck) (hnd:(es.map (·.born)).Nodup) (hks:(ks.map encM).Perm (es.map (·.key))) (hlen:es.length<=1048576) (hs:ynS ks=ks):Calls aB 124 #[.func (.func 211) #[] #[.pointer (some ⟨Bm,0,none⟩)],.func (.func 126) #[] #[]] w fun e w'=>∃v,e = .returned v/\RowM w.heap.size w' v ks/\Ext w w':=by
 have hk:∀e∈es,∃x,e.key=encM x:=fun e he=>by obtain⟨x,_,hx⟩:=bF.1 (hks.mem_iff.2 (bF.2 ⟨e,he,rfl⟩));exact⟨x,hx.symm⟩
 have k1:=(callsIn_wide (n:=5)).1 (yrL Fence.wide 5 trivial trivial trivial rfl (by omega) Bm b ck es w hm hb hB hold hnd hk hlen);have k2:=fun(W:World) (v:Value) (ss:List (Bs×Bs)) (hp:(ss.map encM).Perm (es.map (·.key))) (hrow:W.ownsRow w.heap.size 75 2 v ss.length (ss.flatMap enc2)) (hx:Below w.heap.size w W)=>sortM_c (rowM_of hrow) (by have:=hp.length_eq;simp at this;omega) hx.size;have k3:∀ss:List (Bs×Bs),(ss.map encM).Perm (es.map (·.key))->ynS ss=ks:=fun ss hp=>by rw[<-hs];have hpp:ss.Perm ks:=ytU (fun _ _=>encM_inj) (hp.trans hks.symm);exact zvV (R:=fun x y=>leM x y=true) (fun a _ b _ h k=>ymT h k) ((zgN _ ss).trans (hpp.trans (zgN _ ks).symm)) (zjE ydC zzZ ss) (zjE ydC zzZ ks)
 go_enter Tryz.func124,Tryz.ntmps124
 go_wp2_with (first
  |(go_at_call 209;refine k1.mono ?_;rintro e w' ⟨v,ss,rfl,hp,hrow,hx⟩)
  |(go_at_call 210;refine(k2 _ v ss hp hrow hx).mono ?_;rintro e w2 ⟨rfl,hr2,hx2⟩))
 go_ret
 rw[k3 ss hp]at hr2;exact⟨v,rfl,hr2,hx.trans hx2⟩
def yfE:List (Bs×Bs)->Bool
 |x::y::l=>ltM x y&&yfE (y::l)|_=>true
theorem yrA:∀{l:List (Bs×Bs)},yfE l=true->l.Pairwise fun x y=>ltM x y=true
 |[],_=>.nil|[x],_=>List.pairwise_singleton _ _|x::y::l,h=>by
  unfold yfE at h;rw[aH]at h;have ih:=yrA (l:=y::l) h.2;refine aX.2 ⟨fun z hz=>?_,ih⟩;rcases aL.1 hz with rfl|hz
  ·exact h.1
  ·exact yiW h.1 ((aX.1 ih).1 z hz)
theorem ysM{l:List (Bs×Bs)}(h:yfE l=true):ynS l=l:=
 zvV (R:=fun x y=>leM x y=true) (fun _ _ _ _ h k=>ymT h k) (zgN _ l) (zjE ydC zzZ l) ((yrA h).imp leM_of)
def ycK(es:List ((Bs×Bs)×Unit)):Option (List (Bs×Bs)×List ((Bs×Bs)×Unit)):=bif decide (es.length<=1048576)&&yfE (es.map (·.1))then some (es.map (·.1),es)else none
theorem ytQ{S:Mem}:∀{l:List ((Bs×Bs)×Unit)} {ents:List MapEntry},A2 (fun(p:(Bs×Bs)×Unit) en=>rep1 (.pr .s .s) S en.key p.1/\rep1 .un S en.val p.2) l ents->ents.map (·.key)=l.map fun p=>encM p.1
 |_,_,.nil=>rfl|p::l,en::ents,.cons a r=>by have h:en.key=kv (.pr .s .s) p.1:=ybJ (K:=.pr .s .s) rfl a.1;rw[bG,bG,ytQ r,h];rfl
theorem rowM_rd{S:Mem}{W:World}{base:Nat}{v:Value}{ss:List (Bs×Bs)}(h:RowM base W v ss)(hS:∀g,base<=g->S g=nj W.heap[g]?):@RdS (den T2) (rpD T2) S v ss:=by
 refine⟨ss.flatMap enc2,?_,xeX ss⟩;show SlS S v ss.length 2 (ss.flatMap enc2);rcases h with⟨rfl,rfl⟩|⟨g,cap,rs,rfl,h1,h2,h3,h4⟩
 ·exact .inl ⟨⟨_,rfl⟩,rfl,rfl⟩
 ·refine .inr ⟨g,0,cap,ss.flatMap enc2++rs,75,(0,0),rfl,h2,?_,?_,?_⟩
  ·rw[hS g h1,h3];rfl
  ·rw[h4];omega
  ·rw[zaS,List.drop_zero];exact List.take_left' (zmW ss)
section
variable {G:List (Nat×Obj)}
abbrev qaV:OSh:=.mp true (.pr .s .s) .un
theorem yrW:SCok aB G 124 ⟨⟨[(0,(.fn 211 [] [(.ptr 0 0)])),(1,(.fn 126 [] []))],[.blk 126 [(.mpr 1)],qaV]⟩,1,[(none,⟨[(0,(.h (.sl (.pr .s .s))))],[.blk 126 [(.mpr 1)],qaV]⟩)],fun(es:List ((Bs×Bs)×Unit))=>ycK es⟩:=by
 refine⟨isFn Tryz.func124 (by kernel_rfl) (by kernel_rfl),fun S0 w0 us E0 L0 (es:List ((Bs×Bs)×Unit)) d _ hul R hy=>?_⟩;have hy:(bif decide (es.length<=1048576)&&yfE (es.map (·.1))then some (es.map (·.1),es)else none)=some d:=hy;obtain⟨hok,hy⟩:=zaG hy;have hd:d=(es.map (·.1),es):=(Option.some.inj hy).symm;subst hd;have hlen:=zC (zaR hok);have hrise:=zaV hok;have hul:us.length=2:=hul;obtain⟨u,u2,rfl⟩:∃u u2,us=[u,u2]:=by
  match us,hul with
  |[u,u2],_=>exact⟨u,u2,rfl⟩
 have R:RelV ⟨S0,zbD L0,w0⟩ S0 E0 L0 ⟨[(0,.fn 211 [] [.ptr 0 0]),(1,.fn 126 [] [])],[.blk 126 [.mpr 1],.mp 0 (.pr .s .s) .un es]⟩ (fun t=>[u,u2].getD t undef) w0:=R;obtain⟨r0,e0,a1,a2,b0,cs,rfl,rfl,a3⟩:=R.objN (i:=0) rfl;obtain⟨c,rfl,a4⟩:=a3.one;obtain⟨_,e1,a5,a6⟩:=(show VB S0 E0 (.mpr 1) c from a4);obtain⟨r1,e1',c1,c2,b,ents,ck,rfl,rfl,c3,c4⟩:=R.objN (i:=1) rfl;rw[c2]at a5;cases a5;have hc:=a6 _ _ _ _ rfl;subst hc;have hh0:w0.heap[b0]? = some (.cells [Value.map (some b)].toArray 126 (0,0)):=R.hs.own 0 _ a1;have hh1:w0.heap[b]? = some (.map ents.toArray ck):=R.hs.own 1 _ c1;have hu:u = .func (.func 211) #[] #[.pointer (some ⟨b0,0,none⟩)]:=by obtain⟨xs,ys,hu,h1,h2⟩:=(show VC S0 E0 (.fn 211 [] [.ptr 0 0]) u from R.sl 0);cases h1;obtain⟨y,rfl,h3⟩:=h2.one;obtain⟨b1,hy,e2,h4,h5⟩:=(show VB S0 E0 (.ptr 0 0) y from h3);rw[a2]at h4;cases h4;cases h5 _ rfl;rw[hu,hy]
 subst hu;obtain⟨x1,y1,hu2,q1,q2⟩:=(show VC S0 E0 (.fn 126 [] []) u2 from R.sl 1);cases q1;cases q2;have hu2:u2 = .func (.func 126) #[] #[]:=hu2;subst hu2;obtain⟨(l:List ((Bs×Bs)×Unit)),(hl:l.Perm es),hA⟩:=c3.perm;have hkeys:=ytQ hA;have hks:((es.map (·.1)).map encM).Perm (ents.map (·.key)):=by rw[hkeys,eA];exact(hl.map _).symm
 have hcell:w0.cell? ⟨b0,0,none⟩=some (.map (some b)):=by simp[World.cell?,hh0]
 refine(yyS b0 b ck ents (es.map (·.1)) w0 hcell hh1 (aR.1 hh0).1 c4 c3.nd hks (by have h1:dZ l=ents.length:=hA.len;have h2:dZ l=es.length:=hl.length_eq;omega) (ysM hrise)).mono fun e w' ⟨v,he,hrow,hx⟩=>?_;have R':=R.call hx;have hv:VB (gr S0 w0 w') E0 (.v (.sl (.pr .s .s)) (show List (Bs×Bs)from es.map (·.1))) v:=⟨v,rfl,rowM_rd hrow fun g hg=>by unfold Go.Proofs.YtopanhneegpgcaaGreatDoor.gr;rw[zH (by omega)]⟩;refine⟨v,he,gr S0 w0 w',E0,L0,⟨[(0,.v (.sl (.pr .s .s)) (show List (Bs×Bs)from es.map (·.1)))],[.blk 126 [.mpr 1],.mp 0 (.pr .s .s) .un es]⟩,fun _=>v,fun k=>rfl,ypJ R.hs.sub,Pin.refl _ _,⟨R'.hs,R'.lL,R'.lE,R'.obj,fun t=>?_⟩,?_,aK _,rfl⟩
 ·cases t with
  |zero=>exact VR.ofC (show VC _ _ (.v (.sl (.pr .s .s)) (show List (Bs×Bs)from es.map (·.1))) v from hv)|succ t=>trivial
 ·intro i ver e' T' xs h;cases i with
  |zero=>cases h
  |succ i=>
   cases i with
   |zero=>cases h
   |succ i=>cases h
end
end Go.Proofs.YtopanhneegpgcaaGreatDoor.Am
namespace Go.Proofs
open Go.Shelf
def Tryz.idxS_ren:Go.Shelf.Ren:=⟨fun|6=>212|n=>n,fun|22=>22|23=>9|25=>25|3=>3|0=>0|4=>4|n=>n,fun|n=>n⟩
theorem Tryz.idxS:Go.Proofs.SlLaysH.n6 aB Tryz.idxS_ren:={mixed:=by kernel_rfl,f6:=⟨Tryz.f212.name,by decide,kqz Tryz.func212 (by kernel_rfl)⟩,t0:=Tryz.underlying0,a0:=Tryz.isAgg0,z0:=Tryz.sizeOf0,v0:=Tryz.zeroValue0,t3:=Tryz.underlying3,a3:=Tryz.isAgg3,z3:=Tryz.sizeOf3,v3:=Tryz.zeroValue3,t4:=Tryz.underlying4,a4:=Tryz.isAgg4,z4:=Tryz.sizeOf4,v4:=Tryz.zeroValue4,t22:=Tryz.underlying22,a22:=Tryz.isAgg22,z22:=Tryz.sizeOf22,v22:=Tryz.zeroValue22,a23:=Tryz.isAgg9,z23:=Tryz.sizeOf9,t25:=Tryz.underlying25,a25:=Tryz.isAgg25,z25:=Tryz.sizeOf25,v25:=Tryz.zeroValue25 }
def Tryz.delS_ren:Go.Shelf.Ren:=⟨fun|10=>274|6=>212|n=>n,fun|22=>22|23=>9|25=>25|3=>3|4=>4|0=>0|n=>n,fun|n=>n⟩
theorem Tryz.delS:Go.Proofs.SlLaysH.n10 aB Tryz.delS_ren:={mixed:=by kernel_rfl,f6:=⟨Tryz.f212.name,by decide,kqz Tryz.func212 (by kernel_rfl)⟩,f10:=⟨Tryz.f274.name,by decide,kqz Tryz.func274 (by kernel_rfl)⟩,t0:=Tryz.underlying0,a0:=Tryz.isAgg0,z0:=Tryz.sizeOf0,v0:=Tryz.zeroValue0,t3:=Tryz.underlying3,a3:=Tryz.isAgg3,z3:=Tryz.sizeOf3,v3:=Tryz.zeroValue3,t4:=Tryz.underlying4,a4:=Tryz.isAgg4,z4:=Tryz.sizeOf4,v4:=Tryz.zeroValue4,t22:=Tryz.underlying22,a22:=Tryz.isAgg22,z22:=Tryz.sizeOf22,v22:=Tryz.zeroValue22,a23:=Tryz.isAgg9,z23:=Tryz.sizeOf9,t25:=Tryz.underlying25,a25:=Tryz.isAgg25,z25:=Tryz.sizeOf25,v25:=Tryz.zeroValue25 }
end Go.Proofs
namespace Go.Proofs.YtopanhneegpgcaaGreatDoor.Am
open Go Go.Proofs Go.RowKit Go.Sort Go.Shelf Go.Lib
theorem ytV(s x:Bs)(B:Nat)(W:World)(hc:W.cell? ⟨B,0,none⟩=some (.string ⟨s.toArray⟩)):
  FnGives aB 275 #[.pointer (some ⟨B,0,none⟩)] #[encStr x] (.bool (x==s)) W:=by
 show Calls aB 275 #[.string ⟨x.toArray⟩,.pointer (some ⟨B,0,none⟩)] W _
 go_enter Tryz.func275,Tryz.ntmps275
 go_wp2
 go_ret
 exact⟨rfl,0,rfl⟩
theorem yqQ(a:Option Addr)(c:Nat)(fv:Value)(w:World):Calls aB 274 #[.slice a 0 c,fv] w fun x w'=>x = .returned (.slice a 0 c)/\w'=w:=by
 have h:=AnyE.slices_IndexFunc_empty Tryz.idxS a c fv w;change Calls aB 212 _ _ _ at h
 go_enter Tryz.func274,Tryz.ntmps274
 go_wp2_with (go_at_call 212;refine h.mono ?_;rintro e w' ⟨rfl,rfl⟩)
 go_ret
 exact⟨rfl,rfl⟩
theorem xdD(s:Bs)(B b c:Nat)(l:List Bs)(w:World)(hH:Go.Sort.Holds encStr w b 0 l.toArray)(hB:B<w.heap.size)(hne:B≠b)(hc:w.cell? ⟨B,0,none⟩=some (.string ⟨s.toArray⟩))(hl:l.length<=9223372036854775807)(hcap:l.length<=c):Calls aB 274 #[.slice (some ⟨b,0,none⟩) l.length c,.func (.func 275) #[] #[.pointer (some ⟨B,0,none⟩)]] w fun x w'=>x = .returned (.slice (some ⟨b,0,none⟩) (l.filter fun x=>!(x==s)).length c)/\∃n,w'=putRow encStr (Go.Sort.ahead w n) b 0 ((l.filter fun x=>!(x==s))++bC (l.length-(l.filter fun x=>!(x==s)).length) []).toArray:=by
 have eg:∀args w,(callFunc 275 args).run aB w = .ok (.enter 275 args) w:=enters_of Tryz.func275 (by kernel_rfl) rfl
 have hcon:=AnyE.slices_DeleteFunc Tryz.delS encStr (fun _=>rfl) (fun x=>x==s) 275 #[.pointer (some ⟨B,0,none⟩)] eg [] Tryz.zeroValue9 b 0 c l.toArray w
  (fun W x hb=>ytV s x B W ((hb.cell (p:=⟨B,0,none⟩) hB).trans hc))
  (fun n os dk x _=>ytV s x B _ (by
   unfold sortWorld;rw[cell?_grow _ _ _ (by show B<(putRow _ _ _ _ _).heap.size;rw[size_putRow];exact hB),cell?_putRow_other _ _ b 0 _ _ (Or.inl hne)]
   exact hc)) hH (by simpa using hl) (by simpa using hcap)
 change Calls aB 274 _ _ _ at hcon;simpa using hcon
def dlt(xs:List Bs)(s:Bs):List Bs:=xs.filter fun x=>!(x==s)
theorem dlt_le(xs:List Bs)(s:Bs):(dlt xs s).length<=xs.length:=List.length_filter_le _ _
def delP(xs:List Bs)(s:Bs):Option (List Bs×Bs):=bif decide (xs.length<1152921504606846976)then some (xs.filter fun x=>!(x==s),s)else none
section
variable {G:List (Nat×Obj)}
theorem delF275K:SCok aB G 274 ⟨⟨[(0,(.own 0)),(1,(.fn 275 [] [(.ptr 1 0)]))],[.osl .s 9,.blk 9 [.h .s]]⟩,1,[(none,⟨[(0,(.h (.sl .s)))],[.dead,.blk 9 [.h .s]]⟩)],fun(x:List Bs×Bs)=>delP x.1 x.2⟩:=by
 refine⟨isFn Tryz.func274 (by kernel_rfl) (by kernel_rfl),fun S0 w0 us E0 L0 (x:List Bs×Bs) d _ hul R hy=>?_⟩;obtain⟨xs,s⟩:=x;have hy:(bif decide (xs.length<1152921504606846976)then some (dlt xs s,s)else none)=some d:=hy;obtain⟨hlt,hy⟩:=zaG hy;have hlt:=zC hlt;have hd:d=(dlt xs s,s):=(Option.some.inj hy).symm;subst hd;have hul:us.length=2:=hul;obtain⟨u,u2,rfl⟩:∃u u2,us=[u,u2]:=by
  match us,hul with
  |[u,u2],_=>exact⟨u,u2,rfl⟩
 have R:RelV ⟨S0,zbD L0,w0⟩ S0 E0 L0 ⟨[(0,.own 0 0),(1,.fn 275 [] [.ptr 1 0])],[.osl 0 .s 9 xs,.blk 9 [.v .s s]]⟩ (fun t=>[u,u2].getD t undef) w0:=R;obtain⟨r0,e0,a1,a2,v,v',cs,rs,rfl,rfl,hrl,hsm⟩:=R.objN (i:=0) rfl;obtain⟨r1,e1,c1,c2,b1,us1,rfl,rfl,c3⟩:=R.objN (i:=1) rfl;obtain⟨c0,rfl,c4⟩:=c3.one;have hc0:c0=str s:=by obtain⟨c,hc,hr⟩:=(show VB S0 E0 (.v .s s) c0 from c4);rfl
 subst hc0;obtain⟨h7,e1',h8,h9⟩:=(show VB S0 E0 (.own 0 0) u from R.sl 0);rw[a2]at h8;cases h8;have hu:u=v':=(h9 _ _ _ rfl).2 rfl;subst hu;have hu2:u2 = .func (.func 275) #[] #[.pointer (some ⟨b1,0,none⟩)]:=by obtain⟨xs,ys,hu,h1,h2⟩:=(show VC S0 E0 (.fn 275 [] [.ptr 1 0]) u2 from R.sl 1);cases h1;obtain⟨y,rfl,h3⟩:=h2.one;obtain⟨b2,hy,e2,h4,h5⟩:=(show VB S0 E0 (.ptr 1 0) y from h3);rw[c2]at h4;cases h4;cases h5 _ rfl;rw[hu,hy]
 subst hu2;have hLl:L0.length=2:=R.lL;have hEl:E0.length=2:=R.lE;obtain rfl:L0=[.osl v xs.length 1 cs rs 9,.blk b1 [str s] 9]:=by
  match L0,hLl,a1,c1 with
  |[p,q],_,a1,c1=>simp[lkR]at a1 c1;rw[a1,c1];rfl
 obtain rfl:E0=[.osl 0 u 1,.blk b1]:=by
  match E0,hEl,a2,c2 with
  |[p,q],_,a2,c2=>simp at a2 c2;rw[a2,c2];rfl
 have H:=R.hs;have hh1:w0.heap[b1]? = some (.cells [str s].toArray 9 (0,0)):=H.own 1 _ c1;have hcell:w0.cell? ⟨b1,0,none⟩=some (.string ⟨s.toArray⟩):=by simp[World.cell?,hh1]
 have hb1:=(aR.1 hh1).1;have hcs:=yeP hrl
 -- how it ends
 have fin:∀(v2 u3:Value) (cs2 rs2:LV) (w':World),HS ⟨S0,zbD [.osl v xs.length 1 cs rs 9,.blk b1 [str s] 9],w0⟩ S0 w' [.osl v2 (dlt xs s).length 1 cs2 rs2 9,.blk b1 [str s] 9]->@RL (den .s) (rpD .s) S0 cs2 (dlt xs s)->Same S0 v2 u3 (dlt xs s).length->u3.oneCell'=true ->
   ∃S' E' L' σo V',(∀{γ:Type} (k:Ex->St->Option γ),out [] [(none,(⟨[(0,(.h (.sl .s)))],[.dead,.blk 9 [.h .s]]⟩:Shp))] ((dlt xs s,s):List Bs×Bs) k=k .normal σo)/\Mem.le S0 S'/\Pin 2 [.osl 0 u 1,.blk b1] E'/\RelV ⟨S0,zbD [.osl v xs.length 1 cs rs 9,.blk b1 [str s] 9],w0⟩ S' E' L' σo V' w'/\Ver0 σo.hp/\2<=σo.hp.length/\u3=zyB (zxD V' 0 1):=by
  intro v2 u3 cs2 rs2 w' H2 hr2 hs2 ho;generalize dlt xs s=ys at *
  have R1:RelV ⟨S0,zbD [.osl v xs.length 1 cs rs 9,.blk b1 [str s] 9],w0⟩ S0 [.osl 1 u3 1,.blk b1] [.osl v2 ys.length 1 cs2 rs2 9,.blk b1 [str s] 9] ⟨[(0,.own 0 1)],[.osl 1 .s 9 ys,.blk 9 [.v .s s]]⟩ (fun _=>u3) w':=by
   refine⟨H2,rfl,rfl,fun i o h=>?_,fun t=>?_⟩
   ·cases i with
    |zero=>cases h;exact⟨_,_,rfl,rfl,v2,u3,cs2,rs2,rfl,rfl,hr2,hs2⟩
    |succ i=>
     cases i with
     |zero=>cases h;exact⟨_,_,rfl,rfl,b1,[str s],rfl,rfl,.cons (show VC S0 _ (.v .s s) (str s)from c4) .nil⟩
     |succ i=>simp at h
   ·cases t with
    |zero=>exact VR.ofC (show VC S0 _ (.own 0 1) u3 from⟨ho,_,rfl,fun r v' s he=>by cases he;exact⟨aK 1,fun _=>rfl⟩⟩)|succ t=>trivial
  obtain⟨S',E',L',hS,hE',R2⟩:=ynV R1 0;refine⟨S',E',L',⟨[(0,.v (.sl .s) ys)],[.dead,.blk 9 [.v .s s]]⟩,fun _=>u3,fun k=>rfl,hS,fun k a hk ha=>?_,R2,?_,aK _,rfl⟩
  ·match k,hk with
   |0,_=>
    cases ha;obtain⟨a',h2,h3⟩:=hE' 0 _ rfl;refine⟨a',h2,.inl ⟨_,_,_,rfl,?_⟩⟩;rcases h3 with rfl|rfl|⟨r',v',rfl,h4⟩
    ·exact .inr ⟨1,u3,rfl,fun h=>by cases h⟩
    ·exact .inl rfl
    ·exact .inr ⟨r',v',rfl,fun h=>by omega⟩
   |1,_=>
    cases ha;obtain⟨a',h2,h3⟩:=hE' 1 _ rfl;refine⟨a',h2,.inr ⟨fun r v s h=>(by cases h),?_⟩⟩;rcases h3 with rfl|rfl
    ·exact .inr (.inl rfl)
    ·exact .inl rfl
  ·intro i ver e' T' xs' hi
   match i with
   |0=>cases hi
   |1=>cases hi
   |i+2=>simp at hi
 rcases H.own 0 _ a1 with⟨hv,hn,_,_⟩|⟨b,c,fz,hv,k1,k2,k3,k4,k5⟩
 ·have hx:xs=[]:=aT hn;have hu:∃a c,u = .slice a 0 c:=by
   rcases hsm with h|⟨_,_,_,a,h⟩
   ·exact⟨none,0,by rw[h,hv]⟩
   ·exact⟨a,0,h⟩
  obtain⟨a,c,hu⟩:=hu;subst hx;refine(show Calls aB 274 #[u,_] _ _ from by rw[hu];exact yqQ a c _ w0).mono ?_;rintro e w' ⟨rfl,rfl⟩;exact⟨_,rfl,(by rw[<-hu];exact fin v u cs rs _ H hrl hsm h7)⟩
 ·rcases hsm with h|⟨h,_⟩
  ·subst h;by_cases hx:xs=[]
   ·subst hx;refine(show Calls aB 274 #[u,_] _ _ from by rw[hv];exact yqQ (some ⟨b,0,none⟩) c _ w0).mono ?_;rintro e w' ⟨rfl,rfl⟩;exact⟨_,rfl,(by rw[<-show sl b 0 0 c = .slice (some ⟨b,0,none⟩) 0 c from rfl];rw[<-show u=sl b 0 0 c from hv];exact fin u u cs rs _ H hrl (.inl rfl) h7)⟩
   ·subst hcs;have hne:b1≠b:=fun e=>by have:=H.inj 0 1 _ _ b a1 c1 (by rw[hv];rfl) (by rw[e];rfl);omega
    refine(show Calls aB 274 #[u,_] _ _ from by rw[hv];exact xdD s b1 b c xs w0 (holds_of k4 k5) hb1 hne hcell (by omega) k1).mono ?_;rintro x w' ⟨rfl,q,rfl⟩;have hl:=dlt_le xs s;change (dlt xs s).length<=xs.length at hl;obtain⟨g1,g2,g3⟩:=zuR (enc:=encStr) (ds:=dlt xs s++bC (xs.length-(dlt xs s).length) []) (q:=q) (os:=#[]) k4 (by rw[aI,aD,fF];omega);rw[grow_empty]at g1 g2 g3;have hcl:(dlt xs s).length=(dlt xs s).length*1:=(Nat.mul_one _).symm;refine⟨_,rfl,?_⟩;change ∃S' E' L' σo V',_/\_/\_/\RelV _ S' E' L' σo V' (putRow encStr (Go.Sort.ahead w0 q) b 0 (dlt xs s++bC (xs.length-(dlt xs s).length) []).toArray)/\_/\_/\_;generalize hds:dlt xs s++bC (xs.length-(dlt xs s).length) ([]:Bs)=ds at g1 g2 g3 ⊢;have hdl:ds.map encStr++rs=(dlt xs s).map encStr++((bC (xs.length-(dlt xs s).length) ([]:Bs)).map encStr++rs):=by rw[<-hds,cN,List.append_assoc]
    generalize (bC (xs.length-(dlt xs s).length) ([]:Bs)).map encStr++rs=rs' at hdl;have hdn:ds.length=xs.length:=by rw[<-hds,aD,fF];omega
    have hlen:((dlt xs s).map encStr++rs').length=(xs.map encStr++rs).length:=by rw[<-hdl];simp only[aD,aI,hdn]
    rw[hdl]at g1;rw[hv]at H a1;have H2:=HS.upd H (w':=putRow encStr (Go.Sort.ahead w0 q) b 0 ds.toArray) (k:=0) (r:=.osl (sl b 0 xs.length c) xs.length 1 (xs.map encStr) rs 9) (r':=.osl (sl b 0 (dlt xs s).length c) (dlt xs s).length 1 ((dlt xs s).map encStr) rs' 9) rfl g3 rfl rfl rfl (fun i hi hne=>g2 i hi fun e=>hne (by rw[e];rfl)) (.inr ⟨b,c,fz,rfl,Nat.le_trans hl k1,by rw[aI];exact hcl,by rw[hlen];exact k3,g1,by rw[hlen];exact k5⟩) fun b' hb'=>.inl hb';rw[<-hv]at H2;exact fin (sl b 0 (dlt xs s).length c) _ _ rs' _ H2 (yeU _) (.inl rfl) rfl
  ·rw[hv]at h;cases h
end
end Go.Proofs.YtopanhneegpgcaaGreatDoor.Am
namespace Go.Proofs.YtopanhneegpgcaaGreatDoor.Am
open Go Go.RowKit
structure Ops where
 itoa:Int->Option Bs
 atoi:Bs->Option (Int×Bool)
 trim:Bs->Bs->Option Bs
 cut:Bs->Bs->Option (Bs×Bs×Bool)
 form:(List Bs)->Option Bs
 compare:Bs->Bs->Option (Int)
def yrK(o:Ops):PC:=⟨[(.h (.i .i64))],[.s],fun x=>o.itoa x,false⟩
def xcY(o:Ops):PC:=⟨[(.h .s)],[(.i .i64),.er],fun x=>o.atoi x,false⟩
def ynH(o:Ops):PC:=⟨[(.h .s),(.h .s)],[.s],fun x=>o.trim x.1 x.2,false⟩
def xbG(o:Ops):PC:=⟨[(.h .s),(.h .s)],[.s,.s,.b],fun x=>o.cut x.1 x.2,false⟩
def yiV(o:Ops):PC:=⟨[(.h (.sl .s))],[.s],fun x=>o.form x,false⟩
def yxP(o:Ops):PC:=⟨[(.h .s),(.h .s)],[(.i .i64)],fun x=>o.compare x.1 x.2,false⟩
class zmE (G:List (Nat×Obj)) (o:Ops):Prop where
 itoa:PCok aB G 68 (yrK o)
 atoi:PCok aB G 165 (xcY o)
 trim:PCok aB G 164 (ynH o)
 cut:PCok aB G 59 (xbG o)
 form:PCok aB G 22 (yiV o)
 compare:PCok aB G 90 (yxP o)
theorem witO{p:Prop}{G:List (Nat×Obj)}{o:Ops}[zoW G][zmE G o](h:p):p:=h
def zaB:Ops:=⟨ysL,atoiP,yjS,cutP,zjJ,yuM⟩
instance realOk {G:List (Nat×Obj)} [zoW G]:zmE G zaB:=⟨yiK,yjC,yhO,yjP,yjR,ycE⟩
end Go.Proofs.YtopanhneegpgcaaGreatDoor.Am
