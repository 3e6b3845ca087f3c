/- slices.SortedFunc of an empty map's keys, that are structs, at this program. What is left open: operations that laws speak of. Conditions: none; definitions, and that they are there. Conditions: as each theorem says. -/
import Derived.RangeFuncNested
import Derived.RangeFuncBound
import Derived.RangeFuncCalls
import Derived.RangeFuncLeaves
import Derived.RangeFuncFrom
import Derived.Shelf.Abstract
import Derived.Shelf.RegionOpen
import Derived.WalkKit
import Derived.OwnWalkIn
import Derived.TacticsInMore
import Derived.LoopNIn
import Derived.LoopIn
import Derived.Maps.RangeRun
import Derived.Test.YtopanhneegpgcaaGreatDoorQtJ
namespace Go.Proofs.YtopanhneegpgcaaGreatDoor.Am
open Go Go.Proofs Go.RowKit Go.Sort Go.Shelf
attribute [local go_sem] Oper.semAt_some
set_option maxRecDepth 100000 in
set_option maxHeartbeats 2000000 in
theorem ysU(F:Fence)(n:Nat)(hf:F.fn 211)(hro:F.round=none)(l Bm b ck:Nat)(J:List (Bs×Bs)→World→Prop)(W:World)(hJ:AbidesFrom W.heap.size J)
  (hm:W.cell? ⟨Bm,0,none⟩=some (.map (some b))) (hb:W.heap[b]? = some (.map #[] ck)) (h0:J [] W):
  CallsIn F n Tryz.prog 211 #[.func (.yield l) #[] #[],.pointer (some ⟨Bm,0,none⟩)] W fun e W'=>(∃v,e = .returned v)∧J [] W':=by
 refine callsIn_of_wp Tryz.func211 rfl hf ?_ hro
 simp only[Tryz.ntmps211,List.size_toArray,List.length_cons,List.length_nil,Nat.reduceAdd,Nat.reduceSub,Array.replicate_succ,Array.replicate_zero,List.push_toArray,List.append_toArray,List.nil_append,List.cons_append]
 have hrg:=run_range_map (P:=Tryz.prog) W 126 75 157 b #[] ck (by kernel_rfl) hb
 have hnx:∀ty,(Instr.next (.pointer (some ⟨W.heap.size,0,none⟩)) false ty).run Tryz.prog (W.alloc (.mapIter (some b) ck #[] ck)) = .ok (.tuple #[.bool false]) (W.alloc (.mapIter (some b) ck #[] ck)):=fun ty=>by
  rcases run_next_at (P:=Tryz.prog) (W.alloc (.mapIter (some b) ck #[] ck)) ty W.heap.size b ck ck #[] #[] ck (World.alloc_heap_new W _) ((Below.heap_alloc W _ b (Array.getElem?_eq_some_iff.1 hb).1).trans hb) (fun x hx=>by simp at hx) (Nat.le_refl _)with h|⟨e,he,_⟩
  ·exact h.2
  ·simp[leftOf]at he
 gi_wp2
 refine wpIn_loop_rounds 1 ?_
 rw[roundsIn_succ]
 gi_wp2
 go_end0
 exact⟨⟨_,rfl⟩,hJ [] W _ none h0 (World.grownBy_alloc W _ none) (fun r e=>by cases e)⟩
theorem yhE{P:Program}{F:Fence}{n:Nat}{α:Type}{g:Operand}{ps:Array Tmp}{assign body:Code}{Q:Exit→Act→World→Prop}{a:Act}{w:World}(hro:F.round=none)(h1:1≤n){gf:Nat}{lb:Array Value}(hg:a.eval g = .func (.func gf) #[] lb)(hFg:F.fn gf)(eg:∀args w,(callFunc gf args).run P w = .ok (.enter gf args) w)
  (I:α→World→Prop) (s:α) (hI:OwnFrom w.heap.size I) (h0:I s w)
  (hseq:∀(l:Nat) (J:α→World→Prop) (W:World),AbidesFrom W.heap.size J→I s W→J s W→CallsIn F (n-1) P gf (#[.func (.yield l) #[] #[]]++lb) W fun e W'=>(∃v,e = .returned v)∧J s W')
  (hdone:∀(D:Nat) (W:World),w.heap.size≤D→I s W→W.heap[D]? = some (.deferred (some []))→Q .normal { a with defers:={ target:=.collected D,args:=#[] }::a.defers } W):(Code.rangeFunc g ps assign body).wpIn F n P Q a w:=by
 refine wpIn_rangeFunc ?_
 intro fn _
 rw[hro]
 obtain⟨rec,hrec⟩:∃rec:LoopState→Option Code→Loop,rec=fun st pe=>{ state:=st,pending:=pe,fn,tmps:=a.tmps,params:=ps,assign,body,defers:=w.heap.size }:=⟨_,rfl⟩
 obtain⟨W1,hW1⟩:∃W1,(w.alloc (.deferred (some []))).alloc (.loop (rec .ready none))=W1:=⟨_,rfl⟩
 have hL:W1.heap[w.heap.size+1]? = some (.loop (rec .ready none)):=by
  rw[←hW1];have:=World.alloc_heap_new (w.alloc (.deferred (some []))) (.loop (rec .ready none));rwa[World.size_alloc]at this
 have hK:W1.heap[w.heap.size]? = some (.deferred (some [])):=by
  rw[←hW1];exact(Below.heap_alloc _ _ _ (by simp)).trans (World.alloc_heap_new w _)
 have hi1:I s W1:=by rw[←hW1];exact hI.alloc _ (hI.alloc _ h0)
 have hsz:w.heap.size≤W1.heap.size:=by rw[←hW1];simp;omega
 refine⟨w.heap.size+1,[{ target:=.collected w.heap.size,args:=#[] }],W1,{ target:=.fn (.func gf) lb,args:=#[.func (.yield (w.heap.size+1)) #[] #[]] },W1,gf,#[.func (.yield (w.heap.size+1)) #[] #[]]++lb,W1,?_,?_,?_,?_,fun _=>h1,?_⟩
 ·rw[←hW1,hrec];exact run_enterLoop_outer _ _ _ _ _
 ·simp only[resolve,hg]
  simp[go_sem]
 ·intro f' hf';simp[Target.leads]at hf';subst hf';exact hFg
 ·simp[invoke,go_sem,eg]
 ·refine(hseq (w.heap.size+1) (fun s W=>I s W∧W.heap[w.heap.size+1]? = some (.loop (rec .ready none))∧W.heap[w.heap.size]? = some (.deferred (some []))) W1
   (fun s A B row hs hg' hr=>⟨hI s A B row hs.1 hg' (fun r e=>by obtain⟨hB,o,ho,hw⟩:=hr r e;exact⟨by omega,o,ho,Obj.not_cells_of_walk hw⟩),(grownBy_keeps hg' (fun r e=>(hr r e).2) hs.2.1 rfl).trans hs.2.1,(grownBy_keeps hg' (fun r e=>(hr r e).2) hs.2.2 rfl).trans hs.2.2⟩) hi1 ⟨hi1,hL,hK⟩).mono ?_
  rintro e W2 ⟨⟨v,rfl⟩,hi,hl,hk⟩
  exact⟨none,_,by have:=run_endLoop (P:=P) hl (by rw[hrec];simp);rw[hrec]at this;exact this,hdone _ _ (Nat.le_refl _) (hI.putObj _ hi (by omega) hl rfl) ((World.putObj_heap_other (by omega)).trans hk)⟩
set_option maxRecDepth 100000 in
set_option maxHeartbeats 2000000 in
theorem ylP(F:Fence)(n:Nat)(hf:F.fn 276)(hg:F.fn 211)(hro:F.round=none)(hn:2≤n)(Bm b ck:Nat)(w:World)(hm:w.cell? ⟨Bm,0,none⟩=some (.map (some b)))(hb:w.heap[b]? = some (.map #[] ck))(hB:Bm<w.heap.size):
  CallsIn F n Tryz.prog 276 #[.slice none 0 0,.func (.func 211) #[] #[.pointer (some ⟨Bm,0,none⟩)]] w fun e w'=>e = .returned (.slice none 0 0)∧Below w.heap.size w w':=by
 refine callsIn_of_wp_marks Tryz.func276 rfl hf ?_ hro
 simp only[Tryz.ntmps276,List.size_toArray,List.length_cons,List.length_nil,Nat.reduceAdd,Nat.reduceSub,Array.replicate_succ,Array.replicate_zero,List.push_toArray,List.append_toArray,List.nil_append,List.cons_append]
 gi_wp2
 obtain⟨W0,hW0⟩:∃W0,w.alloc (.cells #[.slice none 0 0] 72)=W0:=⟨_,rfl⟩
 have hs0:W0.heap.size=w.heap.size+1:=by rw[←hW0];simp
 have hB0:Below w.heap.size w W0:=by rw[←hW0];exact(Below.refl _ w).alloc (Nat.le_refl _) _
 have hc0:W0.heap[w.heap.size]? = some (.cells #[.slice none 0 0] 72 (0,0)):=by rw[←hW0];exact World.alloc_heap_new w _
 have hbl:=(Array.getElem?_eq_some_iff.1 hb).1
 rw[hW0]
 refine yhE hro (by omega) (gf:=211) (lb:=#[.pointer (some ⟨Bm,0,none⟩)]) rfl hg (enters_of Tryz.func211 (by kernel_rfl) rfl)
  (fun(_:List (Bs×Bs)) W=>W.cell? ⟨w.heap.size,0,none⟩=some (.slice none 0 0)∧Below w.heap.size w W) [] (OwnFrom.and (Own.from (fun s A B row hs hg hr=>cell_kept hs hg hr) _) (ownFrom_below (Nat.le_refl _) (by omega))) ⟨by simp[World.cell?,hc0],hB0⟩
  (fun l J W hJ hi hj=>ysU F _ hg hro l Bm b ck J W hJ ((hi.2.cell (p:=⟨Bm,0,none⟩) hB).trans hm) ((hi.2.block b hbl).trans hb) hj) (fun D W hD hi hK=>?_)
 obtain⟨h1,h2⟩:=hi
 gi_wp2
 refine⟨by simp,.inl ⟨_,_,rfl,run_takeDeferred hK,?_⟩⟩
 exact⟨_,results_tmp rfl _ _ _,rfl,h2.trans (belowK_b (w:=w) (Nat.le_refl _) _ D _ _ (by omega) hK rfl rfl)⟩
set_option maxHeartbeats 2000000 in
theorem yhO(F:Fence)(n:Nat)(h0:F.fn 209)(hf:F.fn 276)(hg:F.fn 211)(hro:F.round=none)(hn:3≤n)(Bm b ck:Nat)(w:World)(hm:w.cell? ⟨Bm,0,none⟩=some (.map (some b)))(hb:w.heap[b]? = some (.map #[] ck))(hB:Bm<w.heap.size):
  CallsIn F n Tryz.prog 209 #[.func (.func 211) #[] #[.pointer (some ⟨Bm,0,none⟩)]] w fun e w'=>e = .returned (.slice none 0 0)∧Below w.heap.size w w':=by
 have h1:1≤n:=by omega
 have e1:∀args w,(callFunc 276 args).run Tryz.prog w = .ok (.enter 276 args) w:=enters_of Tryz.func276 (by kernel_rfl) rfl
 refine callsIn_of_wp Tryz.func209 rfl h0 ?_ hro
 simp only[Tryz.ntmps209,List.size_toArray,List.length_cons,List.length_nil,Nat.reduceAdd,Nat.reduceSub,Array.replicate_succ,Array.replicate_zero,List.push_toArray,List.append_toArray,List.nil_append,List.cons_append]
 gi_wp2_with (gi_at_call 276;refine(ylP F (n-1) hf hg hro (by omega) Bm b ck _ hm hb hB).mono ?_;rintro e w' ⟨rfl,hx⟩)
 go_ret
 exact⟨rfl,hx⟩
set_option maxHeartbeats 2000000 in
theorem ymV(Bm b ck:Nat)(w:World)(hm:w.cell? ⟨Bm,0,none⟩=some (.map (some b)))(hb:w.heap[b]? = some (.map #[] ck))(hB:Bm<w.heap.size):
  Calls Tryz.prog 124 #[.func (.func 211) #[] #[.pointer (some ⟨Bm,0,none⟩)],.func (.func 126) #[] #[]] w fun e w'=>e = .returned (.slice none 0 0)∧Ext w w':=by
 have k1:=(callsIn_wide (n:=5)).1 (yhO Fence.wide 5 trivial trivial trivial rfl (by omega) Bm b ck w hm hb hB)
 have k2:=fun W=>AnyF.slices_SortFunc_none Tryz.sortQ none 0 (.func (.func 126) #[] #[]) W
 change ∀W,Calls Tryz.prog 210 _ _ _ at k2
 go_enter Tryz.func124,Tryz.ntmps124
 go_wp2_with (first
  |(go_at_call 209;refine k1.mono ?_;rintro e w' ⟨rfl,hx⟩)
  |(go_at_call 210;refine(k2 _).mono ?_;rintro e w' ⟨rfl,rfl⟩))
 go_ret
 exact⟨rfl,hx⟩
def zyN:List ((Bs×Bs)×Unit)→Option (List (Bs×Bs)×List ((Bs×Bs)×Unit))
 |[]=>some ([],[])
 |_=>none
section
variable {G:List (Nat×Obj)}
theorem yhA:SCok Tryz.prog G 124 ⟨⟨[(0,(.fn 211 [] [(.ptr 0 0)])),(1,(.fn 126 [] []))],[.blk 126 [(.mpr 1)],.mp true (.pr .s .s) .un]⟩,1,[(none,⟨[(0,(.h (.sl (.pr .s .s))))],[.blk 126 [(.mpr 1)],.mp true (.pr .s .s) .un]⟩)],fun(es:List ((Bs×Bs)×Unit))=>zyN es⟩:=by
 refine⟨isFn Tryz.func124 (by kernel_rfl) (by kernel_rfl),fun S0 w0 us E0 L0 (es:List ((Bs×Bs)×Unit)) d _ hul R hy=>?_⟩
 have hy:zyN es=some d:=hy
 obtain⟨rfl,rfl⟩:es=[]∧d=([],[]):=by
  cases es with
  |nil=>cases hy;exact⟨rfl,rfl⟩
  |cons x l=>cases hy
 have hul:us.length=2:=hul
 obtain⟨u,u2,rfl⟩:∃u u2,us=[u,u2]:=by
  match us,hul with
  |[u,u2],_=>exact⟨u,u2,rfl⟩
 have R:RelV ⟨S0,zaW L0,w0⟩ S0 E0 L0 ⟨[(0,.fn 211 [] [.ptr 0 0]),(1,.fn 126 [] [])],[.blk 126 [.mpr 1],.mp 0 (.pr .s .s) .un []]⟩ (fun t=>[u,u2].getD t undef) w0:=R
 obtain⟨r0,e0,a1,a2,b0,cs,rfl,rfl,a3⟩:=R.objN (i:=0) rfl
 obtain⟨c,rfl,a4⟩:=a3.one
 obtain⟨_,e1,a5,a6⟩:=(show VB S0 E0 (.mpr 1) c from a4)
 obtain⟨r1,e1',c1,c2,b,ents,ck,rfl,rfl,c3,c4⟩:=R.objN (i:=1) rfl
 rw[c2]at a5;cases a5
 have hc:=a6 _ _ _ _ rfl
 subst hc
 have hh0:w0.heap[b0]? = some (.cells [Value.map (some b)].toArray 126 (0,0)):=R.hs.own 0 _ a1
 have hh1:w0.heap[b]? = some (.map ents.toArray ck):=R.hs.own 1 _ c1
 have hu:u = .func (.func 211) #[] #[.pointer (some ⟨b0,0,none⟩)]:=by
  obtain⟨xs,ys,hu,h1,h2⟩:=(show VC S0 E0 (.fn 211 [] [.ptr 0 0]) u from R.sl 0)
  cases h1
  obtain⟨y,rfl,h3⟩:=h2.one
  obtain⟨b1,hy,e2,h4,h5⟩:=(show VB S0 E0 (.ptr 0 0) y from h3)
  rw[a2]at h4;cases h4
  cases h5 _ rfl
  rw[hu,hy]
 subst hu
 obtain⟨x1,y1,hu2,q1,q2⟩:=(show VC S0 E0 (.fn 126 [] []) u2 from R.sl 1)
 cases q1;cases q2
 have hu2:u2 = .func (.func 126) #[] #[]:=hu2
 subst hu2
 have hn:ents=[]:=by
  obtain⟨l,hl,hA⟩:=c3.perm
  have hl:l.length=0:=hl.length_eq
  exact List.eq_nil_of_length_eq_zero (by rw[←hA.len];exact hl)
 subst hn
 have hcell:w0.cell? ⟨b0,0,none⟩=some (.map (some b)):=by simp[World.cell?,hh0]
 refine(ymV b0 b ck w0 hcell hh1 (Array.getElem?_eq_some_iff.1 hh0).1).mono fun e w' ⟨he,hx⟩=>?_
 have R':=R.call hx
 have hv:VB (gr S0 w0 w') E0 (.v (.sl (.pr .s .s)) (show List (Bs×Bs)from [])) (.slice none 0 0):=⟨_,rfl,⟨[],.inl ⟨⟨_,rfl⟩,rfl,rfl⟩,rfl⟩⟩
 refine⟨_,he,gr S0 w0 w',E0,L0,⟨[(0,.v (.sl (.pr .s .s)) (show List (Bs×Bs)from []))],[.blk 126 [.mpr 1],.mp 0 (.pr .s .s) .un []]⟩,fun _=>.slice none 0 0,fun k=>rfl,ygK R.hs.sub,Pin.refl _ _,⟨R'.hs,R'.lL,R'.lE,R'.obj,fun t=>?_⟩,?_,Nat.le_refl _,rfl⟩
 ·cases t with
  |zero=>exact VR.ofC (show VC _ _ (.v (.sl (.pr .s .s)) (show List (Bs×Bs)from [])) (.slice none 0 0)from hv)
  |succ t=>trivial
 ·intro i ver e' T' xs h
  cases i with
  |zero=>cases h
  |succ i=>
   cases i with
   |zero=>cases h
   |succ i=>cases h
end
end Go.Proofs.YtopanhneegpgcaaGreatDoor.Am
namespace Go.Proofs.YtopanhneegpgcaaGreatDoor.Am
open Go Go.RowKit
structure Ops where
 itoa:Int→Option Bs
 atoi:Bs→Option (Int×Bool)
 trim:Bs→Bs→Option Bs
 cut:Bs→Bs→Option (Bs×Bs×Bool)
 form:(List Bs)→Option Bs
 compare:Bs→Bs→Option (Int)
def yhV(o:Ops):PC:=⟨[(.h (.i .i64))],[.s],fun x=>o.itoa x,false⟩
def yrO(o:Ops):PC:=⟨[(.h .s)],[(.i .i64),.er],fun x=>o.atoi x,false⟩
def ycT(o:Ops):PC:=⟨[(.h .s),(.h .s)],[.s],fun x=>o.trim x.1 x.2,false⟩
def yjM(o:Ops):PC:=⟨[(.h .s),(.h .s)],[.s,.s,.b],fun x=>o.cut x.1 x.2,false⟩
def zvQ(o:Ops):PC:=⟨[(.h (.sl .s))],[.s],fun x=>o.form x,false⟩
def ylH(o:Ops):PC:=⟨[(.h .s),(.h .s)],[(.i .i64)],fun x=>o.compare x.1 x.2,false⟩
class zlH (G:List (Nat×Obj)) (o:Ops):Prop where
 itoa:PCok Tryz.prog G 68 (yhV o)
 atoi:PCok Tryz.prog G 165 (yrO o)
 trim:PCok Tryz.prog G 164 (ycT o)
 cut:PCok Tryz.prog G 59 (yjM o)
 form:PCok Tryz.prog G 22 (zvQ o)
 compare:PCok Tryz.prog G 90 (ylH o)
theorem witO{p:Prop}{G:List (Nat×Obj)}{o:Ops}[zqN G][zlH G o](h:p):p:=h
def zaH:Ops:=⟨yiF,ykV,zxK,cutP,zfG,ykF⟩
instance realOk {G:List (Nat×Obj)} [zqN G]:zlH G zaH:=⟨zzP,zzQ,zzE,ybH,ybF,zvA⟩
end Go.Proofs.YtopanhneegpgcaaGreatDoor.Am
