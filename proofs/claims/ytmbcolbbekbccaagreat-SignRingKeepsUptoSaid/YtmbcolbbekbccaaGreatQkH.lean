/- Parts of one proof. Conditions: as each theorem says. -/
import Derived.KernelRfl
import Derived.Test.YtmbcolbbekbccaaGreatQkG
open Bool renaming eq_false_or_eq_true->cB
open List renaming all_eq_true->bH,append_assoc->bG,drop_drop->eC,drop_eq_nil_of_le->eR,findIdx_cons->fW,findIdx_nil->iR,getD_eq_getElem?_getD->cX,getElem?_eq_getElem->aI,getElem?_eq_none->bT,length_append->aE,length_cons->aN,length_drop->bO,length_nil->aV,length_replicate->eU,length_take->bZ,mem_range->bU,nil_append->cF,range->bR,replicate->aO,take_of_length_le->dJ
open Nat renaming lt_of_lt_of_le->bE,mod_eq_of_lt->aP,or_lt_two_pow->fS,pos_of_ne_zero->cN,xor_lt_two_pow->iG
open Option renaming bind->aA
open Go.Proofs.Tryz renaming prog->aD
namespace Go.Proofs.YtmbcolbbekbccaaGreat
open Go Go.RowKit
section
attribute [local irreducible] wpList wpT Code.wp Calls Code.rounds
variable {S:Mem}{w:World}
theorem to99:TOne aD 99:=⟨fun _=>by kernel_rfl,fun _=>by kernel_rfl⟩
theorem ymM:TOne aD 101:=⟨fun _=>by kernel_rfl,fun _=>by kernel_rfl⟩
theorem tz103:zoQ aD 103 (.agg #[.slice none 0 0]):=fun _=>by kernel_rfl
theorem tz117:zoQ aD 117 (.agg #[str [],str [],str [],.int .u64 0,.int .u64 0,.int .u64 0,.int .u64 0,.int .u32 0,.int .i32 0,.int .u32 0,.int .u64 0,.int .u64 0,.int .u64 0,.int .u64 0,.int .u64 0,.int .u64 0,.int .u64 0,.int .u64 0,.bool false]):=fun _=>by kernel_rfl
theorem u99:Tryz.prog.underlying 99=some (.pointer 117):=by kernel_rfl
theorem u101:Tryz.prog.underlying 101=some (.slice 99):=by kernel_rfl
theorem eg99:Tryz.prog.eqGuardType Tryz.prog.depth 99=false:=by kernel_rfl
theorem is72:IsFn aD 72:=isFn Tryz.func72
theorem is73:IsFn aD 73:=isFn Tryz.func73
theorem is76:IsFn aD 76:=isFn Tryz.func76
theorem is79:IsFn aD 79:=isFn Tryz.func79
theorem is129:IsFn aD 129:=isFn Tryz.func129
theorem tb103:zmS aD 103 (.agg #[.slice none 0 0]) [(0,1)]:=zuN (fs:=fieldsOf aD 103) (by kernel_rfl) tz103 (fun _=>by kernel_rfl)
theorem tb117:zmS aD 117 (.agg #[str [],str [],str [],.int .u64 0,.int .u64 0,.int .u64 0,.int .u64 0,.int .u32 0,.int .i32 0,.int .u32 0,.int .u64 0,.int .u64 0,.int .u64 0,.int .u64 0,.int .u64 0,.int .u64 0,.int .u64 0,.int .u64 0,.bool false]) [(0,1),(1,1),(2,1),(3,4),(7,3),(10,9)]:=zuN (fs:=fieldsOf aD 117) (by kernel_rfl) tz117 (fun _=>by kernel_rfl)
theorem zrQ:zlR aD 103 0 0:=fun _ _ _=>by kernel_rfl
theorem yaZ:zlR aD 117 1 1:=fun _ _ _=>by kernel_rfl
theorem yuO:zlR aD 117 2 2:=fun _ _ _=>by kernel_rfl
theorem tn40:TSn aD 40 9 (str []) [str []] 16 1:=TSn.mk' (by kernel_rfl) (by kernel_rfl) rfl rfl rfl rfl
theorem xdW:TSn aD 101 99 (.pointer none) [.pointer none] 8 1:=TSn.mk' (by kernel_rfl) (by kernel_rfl) rfl rfl rfl rfl
def ywH(x:Bs×Bs×Bs×Qw×Onc×Qp):LV:=[str (x.1)]++([str (x.2.1)]++([str (x.2.2.1)]++(cl24 x.2.2.2.1++((x.2.2.2.2.1).l++(cl26 x.2.2.2.2.2)))))
theorem rp117c{S:Mem}(x:Bs×Bs×Bs×Qw×Onc×Qp):Rp.rep S (ywH x) x:=rpP (rpT) (rpP (rpT) (rpP (rpT) (rpP (rp24c _) (rpP (rpOnc _) (rp26c _)))))
theorem zzO{S:Mem}{c:LV}{x:Bs×Bs×Bs×Qw×Onc×Qp}(h:Rp.rep S c x):c=ywH x:=by obtain⟨c0,d0,rfl,h0,k1⟩:=elP h;obtain rfl:=elT h0;obtain⟨c1,d1,rfl,h1,k2⟩:=elP k1;obtain rfl:=elT h1;obtain⟨c2,d2,rfl,h2,k3⟩:=elP k2;obtain rfl:=elT h2;obtain⟨c3,d3,rfl,h3,k4⟩:=elP k3;obtain rfl:=xfS h3;obtain⟨c4,d4,rfl,h4,k5⟩:=elP k4;obtain rfl:=elOnc h4;obtain rfl:=el26c k5;rfl
theorem xfP:TSz aD 99 1:=fun _=>by kernel_rfl
theorem tsz101:TSz aD 101 1:=fun _=>by kernel_rfl
noncomputable def zkW(x0:Bs):Option ((Option (Bs×Bs×Bs×Qw×Onc×Qp))):=
  aA (zdV ([107,101,121]:Bs) x0) fun y1=>aA (zdC 1 y1) fun y2=>aA (aA (zbQ) fun y3=>bif((y2:Qw)==(y3:Qw))then(some (((1,0,0,0):Qw)))else(some ((y2.1,y2.2.1,y2.2.2.1,y2.2.2.2)))) (fun t1=>aA (zdV ([107,105,100]:Bs) x0) fun y4=>aA (subH y4 9) fun y5=>aA (zjH y5) fun y6=>aA (zdV ([109,97,99]:Bs) x0) fun y7=>some ((some (x0,y6,y7,t1,onc0,(((0,0,0,0):Qw),((0,0,0,0):Qw),false)))))
theorem zyG (hS : Sub S w) {x0 : Bs} {r : (Option (Bs × Bs × Bs × Qw × Onc × Qp))} (hF : zkW x0 = some r) :Calls aD 72 #[str (x0)] w fun e w'=>Ext w w'/\∃(v0':Value),e = .returned (v0')/\Rp.rep (gr S w w') [v0'] r:=by
 refine enter (n:=21) Tryz.func72 rfl rfl rfl ?_;have H:=HS.start hS;refine sr fun K1 hK1=>asP rfl<|xk hK1<|sr fun K2 hK2=>mvT rfl<|bn hF fun y1 e1 hF=>zaQ is46 rfl<|(zgW H.sub e1).mono<|H.xe fun w1 H=>bn hF fun y2 e2 hF=>?_;refine zaQ is86 rfl<|(zmH H.sub e2).mono<|H.xe fun w2 H=>zhM (zdQ (l:=(cl24 ((0,0,0,0):Qw))) H tz24 rfl) fun w3 b1 H=>zfP (zbS (k:=0) (l:=(cl24 y2)) zvP H rfl rfl rfl (zbR _) rfl (onz rfl) rfl) fun w4 H=>xk hK2<|wp_seq_k fun K3 hK3=>zeR fun m1 k1=>bn hF fun t1 hE1 hF1=>?_;have J1:∀(m2:FM) (w7:World),Kp [7,8,9,10] m2 m1->HS ⟨S,[],w⟩ S w7 [.blk b1 ((cl24 t1)) 24]->K3 (fr 21 m2) w7:=by clear H;intro m2 w7 k2 H;have q1:look m2 0=str (x0):=(k2 0 rfl).trans (k1 0);have q2:look m2 3 = .pointer (some ⟨b1,0,none⟩):=(k2 3 rfl).trans (k1 3);refine hK3 _ _<|wp_seq_k fun K5 hK5=>bn hF1 fun y4 e4 hF1=>bn hF1 fun y5 e5 hF1=>bn hF1 fun y6 e6 hF1=>bn hF1 fun y7 e7 hF1=>wrS H 9 [(2,.inl (str (y4))),(4,.inl (str (y6))),(6,.inl (str (y7)))] fun vs2 H=>?_;refine tp (zaD q1)<|tp (zaD q1)<|tcx is46 (fun w hx=>zgW (H.ext hx).sub e4)<|tp (ztG (h:=(9:Int).toNat) (r:=y5) u9 rfl rfl (zdP e5).1 (zdP e5).2.1 (zdP e5).2.2)<|tcx is129 (fun w hx=>zrA (H.ext hx).sub e6)<|tp (zaD q1)<|tcx is46 (fun w hx=>zgW (H.ext hx).sub e7) ?_;refine t_v (fun w hx=>zcA (l:=(cl24 t1)) tg24 (H.ext hx) q2 (k:=0) rfl rfl rfl)<|tp (zbD (vals:=[(0,str (x0)),(1,str (y6)),(2,str (y7)),(3,.agg ((cl24 t1)).toArray)]) (l:=(ywH (x0,y6,y7,t1,onc0,(((0,0,0,0):Qw),((0,0,0,0):Qw),false)))) tb117 rfl rfl)<|zbX<|H.tn fun w8 H=>?_;refine zhM (ybZ (l:=(ywH (x0,y6,y7,t1,onc0,(((0,0,0,0):Qw),((0,0,0,0):Qw),false)))) H rfl) fun w9 b2 H=>asP rfl<|wpList_nil<|zaO<|xn hK5<|wp_ret ?_;obtain⟨S1,hle1,ha1,H1⟩:=H.fixB (k:=0) rfl;clear H;have H:=H1;clear H1;have g1:Rp.rep S1 [.pointer (some ⟨b2,0,none⟩)] (some (x0,y6,y7,t1,onc0,(((0,0,0,0):Qw),((0,0,0,0):Qw),false)):Option (Bs×Bs×Bs×Qw×Onc×Qp)):=rpK (CellAt.whole ha1) (Rp.mono (rp117c _) hle1);clear ha1;obtain rfl:=osi hF1;refine e_1 rfl (zcB rfl) ?_;exact⟨H.toExt,_,rfl,rpGr g1 H⟩
 refine wp_seq_k fun K4 hK4=>bn hE1 fun y3 e3 hE1=>wrS H 3 [(1,.inl (.agg ((cl24 y3)).toArray))] fun vs1 H=>?_;refine t_v (fun w hx=>zcA (l:=(cl24 y2)) tg24 (H.ext hx) (k1 3) (k:=0) rfl rfl rfl)<|tcx is48 (fun w hx=>zeQ (H.ext hx).sub e3)<|tp (zwL eg24 (by decide) (zwF y2 y3) rfl rfl)<|zbX<|H.tn fun w5 H=>wpList_nil<|zaO<|xn hK4 ?_;refine zhT hE1 rfl (fun hE1 hc1=>?_) fun hE1 hc1=>?_
 ·refine wp_region_lit ?_;refine zaA (zbD (vals:=[(0,.int .u64 (1))]) (l:=(cl24 ((1,0,0,0):Qw))) tb24 rfl rfl)<|zfP (zbS (k:=0) (l:=(cl24 ((1,0,0,0):Qw))) zvP H (k1 3) rfl rfl (zbR _) rfl (onz rfl) rfl) fun w6 H=>wpList_nil<|zaM ?_;obtain rfl:=osi hE1;exact J1 _ _ kcx H
 ·refine wp_skip ?_;refine zaM ?_;obtain rfl:=osi hE1;exact J1 _ _ kcx H
noncomputable def zjI(x0:Bs):Option (((List (Option (Bs×Bs×Bs×Qw×Onc×Qp))))):=
  aA (zkW x0) fun y1=>some (([y1]:List (Option (Bs×Bs×Bs×Qw×Onc×Qp))))
theorem zzA (H : HS ⟨S, zcC [], w⟩ S w []) {x0 : Bs} {r : ((List (Option (Bs × Bs × Bs × Qw × Onc × Qp))))} (hF : zjI x0 = some r) :Calls aD 16 #[str (x0)] w fun e w'=>∃(S2:Mem) (pb2:Nat) (pv2:Value) (pcs2 prs2:LV),e = .returned (.pointer (some ⟨pb2,0,none⟩))/\HS ⟨S,zcC [],w⟩ S2 w' [.blk pb2 (([pv2])) 103,.osl (pv2) (r).length 1 pcs2 prs2 99]/\RL S2 pcs2 r:=by refine enter (n:=8) Tryz.func16 rfl rfl rfl<|sr fun K1 hK1=>asP rfl<|xk hK1<|sr fun K2 hK2=>mvT rfl<|bn hF fun y1 e1 hF=>zaQ is72 rfl<|(zyG H.sub e1).mono<|H.yv fun w1 v1 S1 hle1 H g1=>?_;have g2:RL S1 ([v1]++([]:LV)) ([y1]:List (Option (Bs×Bs×Bs×Qw×Onc×Qp))):=(RL.cons g1 RL.nil);refine yeT (zqG (N:=1) (vals:=[(0,v1)]) (l:=([v1]++([]:LV))) xdW H rfl (by simp only[znA,aO,List.flatten_cons,List.flatten_nil,cellsK g1];rfl) rfl g2.len) fun w2 v2 H=>?_;generalize ([v1]++([]:LV))=cs1 at H g2;replace H:=hsn H;refine zaA (zbD (vals:=[(0,v2)]) (l:=([v2])) tb103 rfl (by simp only[znA,lkp,HS.ownCells H (k:=0) rfl];rfl)) ?_;refine zhM (ybZ (l:=([v2])) H rfl) fun w3 b1 H=>asP rfl<|xk hK2<|wp_ret ?_;obtain rfl:=osi hF;refine e_1 rfl (zcB rfl) ?_;exact⟨_,_,_,_,_,rfl,H,g2⟩
def zcI(x1:Bs)(y1:(List (Option (Bs×Bs×Bs×Qw×Onc×Qp))))(s1:Int):Option ((Int)⊕(((Option (Bs×Bs×Bs×Qw×Onc×Qp)))⊕(Unit))):=
  bif decide (s1<((y1).length:Int))then(aA (idx y1 s1) fun y2=>aA (y2) fun y3=>bif(y3.2.1==x1)then(some (.inr (.inl (y2))))else(some (.inl ((w64 (s1+1))))))else(some (.inr (.inr (()))))
def zfQ(x0:Option ((List (Option (Bs×Bs×Bs×Qw×Onc×Qp)))))(x1:Bs):Option ((Option (Bs×Bs×Bs×Qw×Onc×Qp))):=
  jn (aA (x0) fun y1=>aA (iter (zcI x1 y1) (0)) (fun e=>jnO e (fun e1=>some (.inr (e1))) (fun e2=>some (.inl (e2))))) (fun t1=>some (none)) (fun e=>some (e))
theorem zoM (hS : Sub S w) {v0_ : Value} {x0 : Option ((List (Option (Bs × Bs × Bs × Qw × Onc × Qp))))} (h0_ : Rp.rep S [v0_] x0) {x1 : Bs} {r : (Option (Bs × Bs × Bs × Qw × Onc × Qp))} (hF : zfQ x0 x1 = some r) :Calls aD 73 #[v0_,str (x1)] w fun e w'=>Ext w w'/\∃(v0':Value),e = .returned (v0')/\Rp.rep (gr S w w') [v0'] r:=by
 refine enter (n:=24) Tryz.func73 rfl rfl rfl ?_;have H:=HS.start hS;refine sr fun K1 hK1=>asP rfl<|xk hK1<|wp_seq_k fun K2 hK2=>zeR fun m1 k1=>?_;obtain⟨o1,hE1,hF1⟩:=zyF hF;have J1:∀(t1:Unit) (m4:FM) (w2:World),o1 = .inl t1->Kp (4::rg 6 18 []) m4 m1->HS ⟨S,[],w⟩ S w2 []->K2 (fr 24 m4) w2:=by clear H;intro t1 m4 w2 ho k5 H;replace hF1:=jnO_l hF1 ho;refine hK2 _ _<|sr fun K10 hK10=>asP rfl<|xk hK10<|wp_ret ?_;obtain rfl:=osi hF1;refine e_1 rfl (zcB rfl) ?_;exact⟨H.toExt,_,rfl,rpGr rpK0 H⟩
 refine sr fun K3 hK3=>p_mv (v:=v0_) (k1 0)<|bn hE1 fun y1 e1 hE1=>?_;obtain⟨b1,cs1,hv1,hc1,hr1⟩:=opK h0_ e1;subst hv1;refine zaA (zbZ rfl) ?_;obtain⟨v1,rfl,g1⟩:=elL hr1;refine zaA (zaN zrQ rfl)<|zaA (ziS (p:=0) (o:=0) (v:=v1) ymM H.sub rfl hc1 rfl)<|zaA (r_lenR' u101 rfl g1 H.sub)<|mvI rfl<|xk hK3<|wp_block<|zeR fun m2 k2=>bn hE1 fun out1 hL1 hE2=>zqA (4::6::rg 12 12 []) (fun(s1:Int) (m3:FM) (w1:World)=>look m3 12 = .int .i64 (s1)/\HS ⟨S,[],w⟩ S w1 []) hL1 ⟨(k2 12),H⟩ ?_;clear H;intro k4 s1 m3 w1 k3 hI1 o2 hb1 hh1;obtain⟨q1,H⟩:=hI1;have q2:look m3 1=str (x1):=(k3 1 rfl).trans ((k2 1).trans (k1 1));have q3:look m3 10=v1:=(k3 10 rfl).trans (k2 10);have q4:look m3 11 = .int .i64 (((y1).length:Int)):=(k3 11 rfl).trans (k2 11);refine sr fun K4 hK4=>zaA (zlK q1 q4)<|xk hK4<|wp_seq_k fun K5 hK5=>?_;refine zhT hb1 rfl (fun hb1 hc2=>?_) fun hb1 hc2=>?_
 ·refine wp_skip ?_;refine xn hK5<|wp_seq_k fun K6 hK6=>wp_block<|sr fun K7 hK7=>bn hb1 fun y2 e2 hb1=>?_;obtain⟨b2,o3,N1,c1,cs2,hv2,hi1,hc3,hr2⟩:=g1.get (zaP e2).2;refine zaA (ziW (i:=(s1:Int).toNat) u101 xfP q3 hv2 q1 (zaP e2).1 hi1) ?_;obtain⟨v2,rfl,g2⟩:=elK hr2;refine zaA (ziS (p:=(o3+(s1:Int).toNat*1)) (o:=0) (v:=v2) to99 H.sub rfl hc3 rfl)<|p_as (v:=v2) rfl<|xk hK7<|sr fun K8 hK8=>p_mv (v:=v2) rfl<|bn hb1 fun y3 e3 hb1=>?_;obtain⟨b3,cs3,hv3,hc4,hr3⟩:=opK g2 e3;subst hv3;refine zaA (zbZ rfl) ?_;obtain rfl:=zzO hr3;refine zaA (zaN yaZ rfl)<|zaA (ziS (p:=0) (o:=1) (v:=str (y3.2.1)) to9 H.sub rfl hc4 rfl)<|p_mv q2<|zaA (r_eqT (t:=(y3.2.1==x1)) rfl rfl rfl)<|xk hK8 ?_;refine zhT hb1 rfl (fun hb1 hc5=>?_) fun hb1 hc5=>?_
  ·refine sr fun K9 hK9=>?_;refine mvP rfl<|asP rfl<|xk hK9<|wp_ret<|ymH<|zgF<|zgF<|ymH<|zgF ?_;obtain rfl:=osi hb1;obtain rfl:=osi hh1;obtain rfl:=osi hE2;obtain rfl:=osi hF1;refine e_1 rfl (zcB rfl) ?_;exact⟨H.toExt,_,rfl,rpGr g2 H⟩
  ·refine wp_skip ?_;refine zbE<|xn hK6<|wp_region_lit<|zaA (zkO q1 rfl)<|mvI rfl<|wpList_nil<|zaM ?_;obtain rfl:=osi hb1;exact⟨(w64 (s1+1)),_,rfl,(kS k3 rfl kcx),⟨rfl,H⟩,hh1⟩
 ·refine wp_exit ?_;refine zbG<|zbG<|zgE<|zaM ?_;obtain rfl:=osi hb1;obtain rfl:=osi hh1;obtain rfl:=osi hE2;exact J1 _ _ _ rfl (kS k3 rfl (kN k2 kcx)) H
def zfX(x0:Option ((List (Option (Bs×Bs×Bs×Qw×Onc×Qp))))):Option ((Option (Bs×Bs×Bs×Qw×Onc×Qp))):=
  aA (x0) fun y1=>aA (x0) fun y2=>aA (idx y1 (w64 (((y2).length:Int)-1))) fun y3=>some (y3)
theorem ztH (hS : Sub S w) {v0_ : Value} {x0 : Option ((List (Option (Bs × Bs × Bs × Qw × Onc × Qp))))} (h0_ : Rp.rep S [v0_] x0) {r : (Option (Bs × Bs × Bs × Qw × Onc × Qp))} (hF : zfX x0 = some r) :Calls aD 76 #[v0_] w fun e w'=>Ext w w'/\∃(v0':Value),e = .returned (v0')/\Rp.rep (gr S w w') [v0'] r:=by refine enter (n:=15) Tryz.func76 rfl rfl rfl ?_;have H:=HS.start hS;refine sr fun K1 hK1=>asP rfl<|xk hK1<|wp_seq_k fun K2 hK2=>bn hF fun y1 e1 hF=>?_;obtain⟨b1,cs1,hv1,hc1,hr1⟩:=opK h0_ e1;subst hv1;obtain⟨v1,rfl,g1⟩:=elL hr1;refine bn hF fun y2 e2 hF=>?_;obtain⟨cs2,hc2,hr2⟩:=opK' h0_ e2;obtain⟨v2,rfl,g2⟩:=elL hr2;refine bn hF fun y3 e3 hF=>?_;obtain⟨b2,o1,N1,c1,cs3,hv2,hi1,hc3,hr3⟩:=g1.get (zaP e3).2;obtain⟨v3,rfl,g3⟩:=elK hr3;refine wrS H 12 [] fun vs1 H=>?_;refine tp (zaD (v:=(.pointer (some ⟨b1,0,none⟩))) rfl)<|tp (zbZ rfl)<|tp (zaN zrQ rfl)<|t_v (fun w hx=>ziS (p:=0) (o:=0) (v:=v1) ymM (H.ext hx).sub rfl hc1 rfl)<|tp (zaD (v:=.pointer (some ⟨b1,0,none⟩)) rfl)<|tp (zbZ rfl)<|tp (zaN zrQ rfl)<|t_v (fun w hx=>ziS (p:=0) (o:=0) (v:=v2) ymM (H.ext hx).sub rfl hc2 rfl) ?_;refine t_v (fun w hx=>r_lenR' u101 rfl g2 (H.ext hx).sub)<|tp (zoX rfl rfl)<|tp (ziW (i:=((w64 (((y2).length:Int)-1)):Int).toNat) u101 xfP rfl hv2 rfl (zaP e3).1 hi1)<|t_v (fun w hx=>ziS (p:=(o1+((w64 (((y2).length:Int)-1)):Int).toNat*1)) (o:=0) (v:=v3) to99 (H.ext hx).sub rfl hc3 rfl)<|zbX<|H.tn fun w1 H=>p_as (v:=v3) rfl ?_;refine wpList_nil<|zaO<|xn hK2<|wp_ret ?_;obtain rfl:=osi hF;refine e_1 rfl (zcB rfl) ?_;exact⟨H.toExt,_,rfl,rpGr g3 H⟩
noncomputable def zdN(x0:(List (Option (Bs×Bs×Bs×Qw×Onc×Qp))))(x1:Bs):Option (Int×((List (Option (Bs×Bs×Bs×Qw×Onc×Qp))))):=
  aA (zkW x1) fun y1=>aA (y1) fun y2=>aA (zfQ (some x0) y2.2.1) fun y3=>bif(!y3.isNone)then(some ((80,x0)))else(bif(((x0).length:Int)==8)then(some ((82,x0)))else(aA (app x0 ([y1]:List (Option (Bs×Bs×Bs×Qw×Onc×Qp)))) fun y4=>some ((0,y4))))
theorem zoO {b0_ : Nat} {x0 : (List (Option (Bs × Bs × Bs × Qw × Onc × Qp)))} {pv1 : Value} {pcs1 prs1 : LV} (H : HS ⟨S, zcC [.blk b0_ (([pv1])) 103, .osl (pv1) (x0).length 1 pcs1 prs1 99], w⟩ S w [.blk b0_ (([pv1])) 103, .osl (pv1) (x0).length 1 pcs1 prs1 99]) (pg1 : RL S pcs1 x0) {x1 : Bs} {r : Int × ((List (Option (Bs × Bs × Bs × Qw × Onc × Qp))))} (hF : zdN x0 x1 = some r) :Calls aD 17 #[.pointer (some ⟨b0_,0,none⟩),str (x1)] w fun e w'=>∃(S2:Mem) (pv5:Value) (pcs5 prs5:LV),e = .returned (.int .i64 (r.1))/\HS ⟨S,zcC [.blk b0_ (([pv1])) 103,.osl (pv1) (x0).length 1 pcs1 prs1 99],w⟩ S2 w' [.blk b0_ (([pv5])) 103,.osl (pv5) (r.2).length 1 pcs5 prs5 99]/\RL S2 pcs5 r.2:=by
 refine enter (n:=33) Tryz.func17 rfl rfl rfl<|sr fun K1 hK1=>asI rfl<|xk hK1<|sr fun K2 hK2=>mvT rfl<|bn hF fun y1 e1 hF=>zaQ is72 rfl<|(zyG H.sub e1).mono<|H.yv fun w1 v1 S1 hle1 H g1=>?_;replace pg1:=pg1.mono hle1;refine p_as (v:=v1) rfl<|xk hK2<|wp_seq_k fun K3 hK3=>wp_block<|sr fun K4 hK4=>mvP rfl<|p_mv (v:=v1) rfl<|bn hF fun y2 e2 hF=>?_;obtain⟨b1,cs1,hv1,hc1,hr1⟩:=opK g1 e2;subst hv1;refine zaA (zbZ rfl) ?_;obtain rfl:=zzO hr1;refine zaA (zaN yaZ rfl)<|zaA (ziS (p:=0) (o:=1) (v:=str (y2.2.1)) to9 H.sub rfl hc1 rfl)<|bn hF fun y3 e3 hF=>zaQ is73 rfl<|(zoM (zxS H.sub) (rpK (HS.blkAt H (k:=0) rfl) (rpL (RdS.ofOwn H (k:=1) rfl pg1))) e3).mono ?_;rintro _ w2 ⟨hx,v2,rfl,g2⟩;replace H:=H.ext hx;clear hx;refine zaA (r_neK u99 eg99 rfl g2 rfl)<|asB rfl<|xk hK4 ?_;refine zhT hF rfl (fun hF hc2=>?_) fun hF hc2=>?_
 ·refine sr fun K5 hK5=>?_;refine asI rfl<|xk hK5<|wp_ret<|ymH<|zgF ?_;obtain rfl:=osi hF;refine e_1 rfl (zcB rfl) ?_;exact⟨_,_,_,_,rfl,H,pg1⟩
 ·refine sr fun K6 hK6=>?_;refine mvP rfl<|zaA (zbZ rfl)<|zaA (zaN zrQ rfl)<|zaA (zcJ (v:=pv1) ymM H rfl (k:=0) rfl rfl)<|zaA (zwP u101 rfl H (k:=1) rfl rfl)<|zaA (zhB rfl rfl)<|asB rfl<|xk hK6 ?_;refine zhT hF rfl (fun hF hc3=>?_) fun hF hc3=>?_
  ·refine sr fun K7 hK7=>?_;refine asI rfl<|xk hK7<|wp_ret<|ymH<|zgF ?_;obtain rfl:=osi hF;refine e_1 rfl (zcB rfl) ?_;exact⟨_,_,_,_,rfl,H,pg1⟩
  ·refine wp_skip ?_;refine zbE<|xn hK3<|sr fun K8 hK8=>mvP rfl<|mvP rfl<|zaA (zbZ rfl)<|zaA (zaN zrQ rfl)<|zaA (zcJ (v:=pv1) ymM H rfl (k:=0) rfl rfl)<|mvP rfl ?_;refine ydZ (zjN (N:=1) (xs:=([y1]:List (Option (Bs×Bs×Bs×Qw×Onc×Qp)))) (RL.cons g1 RL.nil) xdW H rfl rfl rfl) fun w3 v3 cs2 H g3=>bn hF fun y4 e4 hF=>ymK (zmV (k:=2) (v2:=v3) xdW rfl H rfl rfl pg1 rfl (H.slW (k:=0) rfl) g3 e4) fun w4 v4 cs3 rs1 H g4=>?_;replace H:=H.sel [1,2] rfl;replace H:=hsn H;refine zaA (zbZ rfl)<|zaA (zaN zrQ rfl)<|zfP (zbS (k:=0) (l:=[v4]) tsz101 H rfl rfl rfl (cells_one (HS.ownOne H (k:=1) rfl)) rfl (fun u hu=>by rw[List.mem_singleton]at hu;rw[hu];exact HS.ownOne H (k:=1) rfl) rfl) fun w5 H=>?_;refine xk hK8<|sr fun K9 hK9=>asI rfl<|xk hK9<|wp_ret ?_;obtain rfl:=osi hF;refine e_1 rfl (zcB rfl) ?_;exact⟨_,_,_,_,rfl,H,g4⟩
def zcH(y1:(List (Option (Bs×Bs×Bs×Qw×Onc×Qp))))(s1:(List Bs)×Int):Option (((List Bs)×Int)⊕((List Bs))):=
  bif decide (s1.2<((y1).length:Int))then(aA (idx y1 s1.2) fun y2=>aA (y2) fun y3=>aA (app s1.1 ([y3.2.1]:List Bs)) fun y4=>some (.inl ((y4,(w64 (s1.2+1))))))else(some (.inr (s1.1)))
def zfS(x0:Option ((List (Option (Bs×Bs×Bs×Qw×Onc×Qp))))):Option ((List Bs)):=
  aA (aA (x0) fun y1=>aA (iter (zcH y1) ((([]:List Bs),0))) (fun e=>some (e))) (fun t1=>some (t1))
theorem zvQ (H : HS ⟨S, zcC [], w⟩ S w []) {v0_ : Value} {x0 : Option ((List (Option (Bs × Bs × Bs × Qw × Onc × Qp))))} (h0_ : Rp.rep S [v0_] x0) {r : (List Bs)} (hF : zfS x0 = some r) :Calls aD 26 #[v0_] w fun e w'=>∃(S2:Mem) (pv2:Value) (pcs2 prs2:LV),e = .returned (pv2)/\HS ⟨S,zcC [],w⟩ S2 w' [.osl (pv2) (r).length 1 pcs2 prs2 9]/\RL S2 pcs2 r:=by
 refine enter (n:=24) Tryz.func26 rfl rfl rfl<|sr fun K1 hK1=>asN rfl<|xk hK1<|sr fun K2 hK2=>asN rfl<|xk hK2<|wp_seq_k fun K3 hK3=>zeR fun m1 k1=>?_;refine bn hF fun t1 hE1 hF1=>?_;have J1:∀(v6:Value) (cs7 rs3:LV) (m4:FM) (w4:World),Kp (3::rg 5 18 []) m4 m1->look m4 3=v6->HS ⟨S,zcC [],w⟩ S w4 [.osl (v6) (t1).length 1 cs7 rs3 9]->RL S cs7 t1->K3 (fr 24 m4) w4:=by clear H;intro v6 cs7 rs3 m4 w4 k5 q5 H g7;refine hK3 _ _<|sr fun K9 hK9=>p_mv (v:=v6) q5<|p_as (v:=v6) rfl<|xk hK9<|wp_ret ?_;obtain rfl:=osi hF1;refine e_1 rfl (zcB rfl) ?_;exact⟨_,_,_,_,rfl,H,g7⟩
 refine sr fun K4 hK4=>p_mv (v:=v0_) (k1 0)<|bn hE1 fun y1 e1 hE1=>?_;obtain⟨b1,cs1,hv1,hc1,hr1⟩:=opK h0_ e1;subst hv1;refine zaA (zbZ rfl) ?_;obtain⟨v1,rfl,g1⟩:=elL hr1;refine zaA (zaN zrQ rfl)<|zaA (ziS (p:=0) (o:=0) (v:=v1) ymM H.sub rfl hc1 rfl)<|zaA (r_lenR' u101 rfl g1 H.sub)<|mvI rfl<|xk hK4<|wp_block<|zeR fun m2 k2=>bn hE1 fun out1 hL1 hE2=>?_;replace H:=H.nilOwn 1 9;have g3:RL S [] ([]:List Bs):=RL.nil;replace H:=hsn H;refine zqA (3::5::rg 11 12 []) (fun(s1:(List Bs)×Int) (m3:FM) (w1:World)=>∃(v2:Value) (cs2 rs1:LV),look m3 3=v2/\look m3 11 = .int .i64 (s1.2)/\HS ⟨S,zcC [],w⟩ S w1 [.osl (v2) (s1.1).length 1 cs2 rs1 9]/\RL S cs2 s1.1) hL1 ⟨_,_,_,(show _=(.slice none 0 0:Value)from((k2 3).trans (k1 3))),(k2 11),H,g3⟩ ?_;clear H;intro k4 s1 m3 w1 k3 hI1 o2 hb1 hh1;obtain⟨v2,cs2,rs1,q1,q2,H,g2⟩:=hI1;have q3:look m3 9=v1:=(k3 9 rfl).trans (k2 9);have q4:look m3 10 = .int .i64 (((y1).length:Int)):=(k3 10 rfl).trans (k2 10);refine sr fun K5 hK5=>zaA (zlK q2 q4)<|xk hK5<|wp_seq_k fun K6 hK6=>?_;refine zhT hb1 rfl (fun hb1 hc2=>?_) fun hb1 hc2=>?_
 ·refine wp_skip ?_;refine xn hK6<|wp_seq_k fun K7 hK7=>wp_block<|sr fun K8 hK8=>bn hb1 fun y2 e2 hb1=>?_;obtain⟨b2,o3,N1,c1,cs3,hv2,hi1,hc3,hr2⟩:=g1.get (zaP e2).2;refine zaA (ziW (i:=(s1.2:Int).toNat) u101 xfP q3 hv2 q2 (zaP e2).1 hi1) ?_;obtain⟨v3,rfl,g4⟩:=elK hr2;refine zaA (ziS (p:=(o3+(s1.2:Int).toNat*1)) (o:=0) (v:=v3) to99 H.sub rfl hc3 rfl)<|p_as (v:=v3) rfl<|xk hK8<|wp_region_lit<|p_mv (v:=v2) q1<|p_mv (v:=v3) rfl<|bn hb1 fun y3 e3 hb1=>?_;obtain⟨b3,cs4,hv3,hc4,hr3⟩:=opK g4 e3;subst hv3;refine zaA (zbZ rfl) ?_;obtain rfl:=zzO hr3;refine zaA (zaN yaZ rfl)<|zaA (ziS (p:=0) (o:=1) (v:=str (y3.2.1)) to9 H.sub rfl hc4 rfl)<|ydZ (zjN (N:=1) (xs:=([y3.2.1]:List Bs)) (RL.cons rpT RL.nil) tn40 H rfl rfl rfl) fun w2 v4 cs5 H g5=>bn hb1 fun y4 e4 hb1=>ymK (zmV (k:=1) (v2:=v4) tn40 rfl H rfl rfl g2 rfl (H.slW (k:=0) rfl) g5 e4) fun w3 v5 cs6 rs2 H g6=>?_;replace H:=H.sel [1] rfl;replace H:=hsn H;refine p_as (v:=v5) rfl<|wpList_nil<|zbE<|xn hK7<|wp_region_lit<|zaA (zkO q2 rfl)<|mvI rfl<|wpList_nil<|zaM ?_;obtain rfl:=osi hb1;exact⟨(y4,(w64 (s1.2+1))),_,rfl,(kS k3 rfl kcx),⟨_,_,_,rfl,rfl,H,g6⟩,hh1⟩
 ·refine wp_exit ?_;refine zbG<|zbG<|zgE<|zaM ?_;obtain rfl:=osi hb1;obtain rfl:=osi hh1;obtain rfl:=osi hE2;exact J1 _ _ _ _ _ (kS k3 rfl (kN k2 kcx)) (show _=(v2:Value)from q1) H g2
noncomputable def zgH(x0:Option ((List (Option (Bs×Bs×Bs×Qw×Onc×Qp)))))(x1:Bs):Option (Bs×Bs):=
  aA (zfX x0) fun y1=>aA (y1) fun y2=>aA (y1) fun y3=>aA (zdV y3.2.2.1 x1) fun y4=>some ((y2.2.1,y4))
theorem zxZ (hS : Sub S w) {v0_ : Value} {x0 : Option ((List (Option (Bs × Bs × Bs × Qw × Onc × Qp))))} (h0_ : Rp.rep S [v0_] x0) {x1 : Bs} {r : Bs × Bs} (hF : zgH x0 x1 = some r) :Calls aD 19 #[v0_,str (x1)] w fun e w'=>e = .returned (.tuple #[str (r.1),str (r.2)])/\Ext w w':=by refine enter (n:=19) Tryz.func19 rfl rfl rfl ?_;have H:=HS.start hS;refine sr fun K1 hK1=>asT rfl<|asT rfl<|xk hK1<|sr fun K2 hK2=>p_mv (v:=v0_) rfl<|bn hF fun y1 e1 hF=>zaQ is76 rfl<|(ztH H.sub h0_ e1).mono<|H.yv fun w1 v1 S1 hle1 H g1=>?_;replace h0_:=Rp.mono h0_ hle1;refine p_as (v:=v1) rfl<|xk hK2<|wp_seq_k fun K3 hK3=>bn hF fun y2 e2 hF=>?_;obtain⟨b1,cs1,hv1,hc1,hr1⟩:=opK g1 e2;subst hv1;obtain rfl:=zzO hr1;refine bn hF fun y3 e3 hF=>?_;obtain⟨cs2,hc2,hr2⟩:=opK' g1 e3;obtain rfl:=zzO hr2;refine bn hF fun y4 e4 hF=>wrS H 10 [(9,.inl (str (y4)))] fun vs1 H=>?_;refine tp (zaD (v:=(.pointer (some ⟨b1,0,none⟩))) rfl)<|tp (zbZ rfl)<|tp (zaN yaZ rfl)<|t_v (fun w hx=>ziS (p:=0) (o:=1) (v:=str (y2.2.1)) to9 (H.ext hx).sub rfl hc1 rfl)<|tp (zaD (v:=.pointer (some ⟨b1,0,none⟩)) rfl)<|tp (zbZ rfl)<|tp (zaN yuO rfl) ?_;refine t_v (fun w hx=>ziS (p:=0) (o:=2) (v:=str (y3.2.2.1)) to9 (H.ext hx).sub rfl hc2 rfl)<|tp (zaD (v:=str (x1)) rfl)<|tcx is46 (fun w hx=>zgW (H.ext hx).sub e4)<|zbX<|H.tn fun w2 H=>asT rfl<|asT rfl<|wpList_nil<|zaO<|xn hK3<|wp_ret ?_;obtain rfl:=osi hF;refine e_2 rfl (zcB rfl) (zcB rfl) ?_;exact⟨rfl,H.toExt⟩
noncomputable def zdA(x0:Option ((List (Option (Bs×Bs×Bs×Qw×Onc×Qp)))))(x1:Bs)(x2:Bs)(x3:Bs):Option (Bool):=
  aA (zfQ x0 x1) fun y1=>aA (bif(!y1.isNone)then(aA (y1) fun y2=>aA (zdV y2.2.2.1 x2) fun y3=>aA (znN y3 x3) fun y4=>some (y4))else(some (false))) (fun t1=>some (t1))
theorem zfC (hS : Sub S w) {v0_ : Value} {x0 : Option ((List (Option (Bs × Bs × Bs × Qw × Onc × Qp))))} (h0_ : Rp.rep S [v0_] x0) {x1 : Bs} {x2 : Bs} {x3 : Bs} {r : Bool} (hF : zdA x0 x1 x2 x3 = some r) :Calls aD 21 #[v0_,str (x1),str (x2),str (x3)] w fun e w'=>e = .returned (.bool (r))/\Ext w w':=by
 refine enter (n:=25) Tryz.func21 rfl rfl rfl ?_;have H:=HS.start hS;refine sr fun K1 hK1=>asB rfl<|xk hK1<|sr fun K2 hK2=>p_mv (v:=v0_) rfl<|mvT rfl<|bn hF fun y1 e1 hF=>zaQ is73 rfl<|(zoM H.sub h0_ e1).mono<|H.yv fun w1 v1 S1 hle1 H g1=>?_;replace h0_:=Rp.mono h0_ hle1;refine p_as (v:=v1) rfl<|xk hK2<|sr fun K3 hK3=>p_mv (v:=v1) rfl<|zaA (r_neK u99 eg99 rfl g1 rfl)<|mvB rfl<|ycI fun m1 k1=>yaX 9 fun K4 hK4 R1 hR1=>bn hF fun t1 hE1 hF1=>?_;have J1:∀(m2:FM) (w4:World),Kp (rg 16 9 []) m2 m1->look m2 24 = .bool (t1)->HS ⟨S,[],w⟩ S1 w4 []->K4 m2 w4:=by clear H;intro m2 w4 k2 q1 H;refine hK4 _ _<|p_as q1<|xk hK3<|wp_ret ?_;obtain rfl:=osi hF1;refine e_1 rfl (zcB rfl) ?_;exact⟨rfl,H.toExt⟩
 refine p_gs (j:=2) (zbC rfl rfl (k1 15)) (fun hb1=>?_) (fun hb1=>?_)
 ·replace hE1:=zjY hE1 hb1;refine zcX (zbC rfl rfl (k1 15)) hb1<|p_mv (v:=v1) (k1 9)<|zcX (zbC rfl rfl (k1 15)) hb1<|bn hE1 fun y2 e2 hE1=>?_;obtain⟨b1,cs1,hv1,hc1,hr1⟩:=opK g1 e2;subst hv1;refine zaA (zbZ rfl) ?_;obtain rfl:=zzO hr1;refine zcX (zbC rfl rfl (k1 15)) hb1<|zaA (zaN yuO rfl)<|zcX (zbC rfl rfl (k1 15)) hb1<|zaA (ziS (p:=0) (o:=2) (v:=str (y2.2.2.1)) to9 H.sub rfl hc1 rfl)<|zcX (zbC rfl rfl (k1 15)) hb1<|p_mv (k1 2)<|zcX (zbC rfl rfl (k1 15)) hb1<|bn hE1 fun y3 e3 hE1=>zaQ is46 rfl ?_;refine(zgW H.sub e3).mono<|H.xe fun w2 H=>zcX (zbC rfl rfl (k1 15)) hb1<|p_mv (k1 3)<|zcX (zbC rfl rfl (k1 15)) hb1<|bn hE1 fun y4 e4 hE1=>zaQ is79 rfl<|(zxY H.sub e4).mono<|H.xe fun w3 H=>zaA (zbV (v:=.bool (y4)) (k1 15) hb1 rfl)<|hR1 _ _ ?_;obtain rfl:=osi hE1;exact J1 _ _ kcx rfl H
 ·replace hE1:=zkD hE1 hb1;refine zdG (zbC rfl rfl (k1 15)) hb1 ?_;rw[zaI];refine zdG (zbC rfl rfl (k1 15)) hb1 ?_;rw[zaI];refine zdG (zbC rfl rfl (k1 15)) hb1 ?_;rw[zaI];refine zdG (zbC rfl rfl (k1 15)) hb1 ?_;rw[zaI];refine zdG (zbC rfl rfl (k1 15)) hb1 ?_;rw[zaI];refine zdG (zbC rfl rfl (k1 15)) hb1 ?_;rw[zaI];refine zdG (zbC rfl rfl (k1 15)) hb1 ?_;rw[zaI];refine zdG (zbC rfl rfl (k1 15)) hb1 ?_;rw[zaI];refine zaA (zaU (v:=.bool (false)) (k1 15) hb1 rfl)<|hR1 _ _ ?_;obtain rfl:=osi hE1;exact J1 _ _ kcx rfl H
theorem u37:Tryz.prog.underlying 37=some (.pointer 103):=by kernel_rfl
theorem u40:Tryz.prog.underlying 40=some (.slice 9):=by kernel_rfl
theorem eg37:Tryz.prog.eqGuardType Tryz.prog.depth 37=false:=by kernel_rfl
theorem is9:IsFn aD 9:=isFn Tryz.func9
theorem is12:IsFn aD 12:=isFn Tryz.func12
theorem is14:IsFn aD 14:=isFn Tryz.func14
theorem is16:IsFn aD 16:=isFn Tryz.func16
theorem is17:IsFn aD 17:=isFn Tryz.func17
theorem is19:IsFn aD 19:=isFn Tryz.func19
theorem is21:IsFn aD 21:=isFn Tryz.func21
theorem is26:IsFn aD 26:=isFn Tryz.func26
theorem ygO(x y:Qp):EqR aD 3 26 (.agg (cl26 x).toArray) (.agg (cl26 y).toArray) (x==y):=
  EqR.str (fs:=fieldsOf aD 26) (by kernel_rfl) (by kernel_rfl) (by kernel_rfl) (l:=[(24,0),(24,4),(4,8)]) (by kernel_rfl) (EqL.cons (yeA tg24 rfl) (yeA tg24 rfl) (zwF x.1 y.1) (EqL.cons (yeA tg24 rfl) (yeA tg24 rfl) (zwF x.2.1 y.2.1) (EqL.last (zmQ (v:=Value.bool (x.2.2)) to4 rfl) (zmQ (v:=Value.bool (y.2.2)) to4 rfl) ((eqB u4).le 2 (Nat.le_of_ble_eq_true rfl)))))
noncomputable def ztQ :Option (Bool):=
  aA (zgY ((1,0,0,0):Qw)) fun y1=>aA (zgY ((0,0,0,0):Qw)) fun y2=>aA (zkQ 1) fun y3=>aA (zgK y3 ([]:Bs)) fun y4=>aA (zjI ([97]:Bs)) fun y5=>aA (zdN y5 ([97]:Bs)) fun y6=>aA (bif(y6.1 != 80)then(some ((true,y6.2)))else(aA (zdN y6.2 ([98]:Bs)) fun y7=>some (((y7.1 != 0),y7.2)))) (fun t1=>aA (bif t1.1 then(some (true))else(aA (zfS (some t1.2)) fun y8=>some ((((y8).length:Int) != 2)))) (fun t2=>bif t2 then(some (false))else(aA (zgH (some t1.2) ([115]:Bs)) fun y9=>aA (zhX) fun y10=>bif((y1.1:Qp)==(y10:Qp))then(bif(y1.2==0)then(bif(y2.2==80)then(bif(y4.2==80)then(aA (zdA (some t1.2) y9.1 ([115]:Bs) y9.2) fun y11=>bif y11 then(aA (zdA (some t1.2) ([]:Bs) ([115]:Bs) y9.2) fun y12=>bif(!y12)then(aA (zeN y1.1 ([]:Bs) ([]:Bs)) fun y13=>some ((bif(bif(bif(bif(!y13)then true else false)then true else false)then true else false)then true else false)))else(some (false)))else(some (false)))else(some (false)))else(some (false)))else(some (false)))else(some (false)))))
set_option maxRecDepth 20000 in
set_option maxHeartbeats 2000000 in
theorem ymU (hS : Sub S w)  {r : Bool} (hF : ztQ = some r) :Calls aD 11 #[] w fun e w'=>e = .returned (.bool (r))/\Ext w w':=by
 refine enter (n:=89) Tryz.func11 rfl rfl rfl ?_;have H:=HS.start hS;refine sr fun K1 hK1=>asB rfl<|xk hK1<|sr fun K2 hK2=>zaA (zbD (vals:=[(0,.int .u64 (1))]) (l:=(cl24 ((1,0,0,0):Qw))) tb24 rfl rfl)<|bn hF fun y1 e1 hF=>zaQ is9 rfl<|(ztC H.sub e1).mono<|H.xe fun w1 H=>mvU rfl ?_;refine zaA (zaG (v:=.agg ((cl26 y1.1)).toArray) rfl rfl)<|zaA (zaG (v:=.int .i64 (y1.2)) rfl rfl)<|zhM (zdQ (l:=(cl26 (((0,0,0,0):Qw),((0,0,0,0):Qw),false))) H tz26 rfl) fun w2 b1 H=>zfP (zbS (k:=0) (l:=(cl26 y1.1)) ybH H rfl rfl rfl (zbR _) rfl (onz rfl) rfl) fun w3 H=>asI rfl<|xk hK2<|sr fun K3 hK3=>?_;refine zaA (zbD (vals:=[]) (l:=(cl24 ((0,0,0,0):Qw))) tb24 rfl rfl)<|bn hF fun y2 e2 hF=>zaQ is9 rfl<|(ztC H.sub e2).mono<|H.xe fun w4 H=>mvU rfl<|zaA (zaG (v:=.agg ((cl26 y2.1)).toArray) rfl rfl)<|zaA (zaG (v:=.int .i64 (y2.2)) rfl rfl)<|zhM (zdQ (l:=(cl26 (((0,0,0,0):Qw),((0,0,0,0):Qw),false))) H tz26 rfl) fun w5 b2 H=>?_;refine zfP (zbS (k:=0) (l:=(cl26 y2.1)) ybH H rfl rfl rfl (zbR _) rfl (onz rfl) rfl) fun w6 H=>asI rfl<|xk hK3<|sr fun K4 hK4=>bn hF fun y3 e3 hF=>zaQ is40 rfl<|(zxF H.sub e3).mono<|H.xe fun w7 H=>bn hF fun y4 e4 hF=>zaQ is12 rfl ?_;refine(zxD H.sub e4).mono<|H.xe fun w8 H=>mvU rfl<|zaA (zaG (v:=str (y4.1)) rfl rfl)<|zaA (zaG (v:=.int .i64 (y4.2)) rfl rfl)<|asT rfl<|asI rfl<|xk hK4<|sr fun K5 hK5=>bn hF fun y5 e5 hF=>?_;refine zaQ is16 rfl<|(zzA (H.hand [] rfl) e5).mono ?_;rintro _ w9 ⟨S1,pb1,pv1,pcs1,prs1,rfl,H2,pg1⟩;obtain⟨H1,hle1⟩:=H.frame [] [0,1] rfl H2;clear H H2;have H:=H1;clear H1;replace H:=hsn H;refine asP rfl<|xk hK5<|wp_seq_k fun K6 hK6=>sr fun K7 hK7=>mvP rfl<|zaA (r_eqPn u37 eg37 rfl rfl)<|mvB rfl<|zcX rfl rfl<|mvP rfl ?_;refine zcX rfl rfl<|bn hF fun y6 e6 hF=>zaQ is17 rfl<|(zoO (H.hand [0,1] rfl) pg1 e6).mono ?_;rintro _ w10 ⟨S2,pv2,pcs2,prs2,rfl,H2,pg2⟩;obtain⟨H1,hle2⟩:=H.frame [0,1] [2,3] rfl H2;clear H H2;have H:=H1;clear H1;replace H:=hsn H;refine zcX rfl rfl<|zaA (zxU rfl rfl)<|zaA (zaU (v:=.bool ((y6.1 != 80))) rfl rfl rfl)<|mvB rfl<|ycI fun m1 k1=>yaX 4 fun K8 hK8 R6 hR6=>bn hF fun t1 hE1 hF1=>?_;have J2:∀(v1:Value) (cs1 rs1:LV) (S4:Mem) (m2:FM) (w12:World),Kp [34,35,36,37] m2 m1->look m2 37 = .bool (t1.1)->Mem.le S2 S4->HS ⟨S,[],w⟩ S4 w12 [.blk pb1 (([v1])) 103,.osl (v1) (t1.2).length 1 cs1 rs1 99,.blk b2 ((cl26 y2.1)) 26,.blk b1 ((cl26 y1.1)) 26]->RL S4 cs1 t1.2->K8 m2 w12:=by
  clear H;intro v1 cs1 rs1 S4 m2 w12 k2 q1 hle4 H g1;have q2:look m2 1 = .pointer (some ⟨b1,0,none⟩):=(k2 1 rfl).trans (k1 1);have q3:look m2 2 = .int .i64 (y1.2):=(k2 2 rfl).trans (k1 2);have q4:look m2 4 = .int .i64 (y2.2):=(k2 4 rfl).trans (k1 4);have q5:look m2 6 = .int .i64 (y4.2):=(k2 6 rfl).trans (k1 6);have q6:look m2 7 = .pointer (some ⟨pb1,0,none⟩):=(k2 7 rfl).trans (k1 7);refine hK8 _ _<|p_mv q1<|ycI fun m3 k3=>yaX 5 fun K9 hK9 R8 hR8=>bn hF1 fun t2 hE2 hF2=>?_;have J1:∀(m4:FM) (w14:World),Kp [39,40,41,42,43] m4 m3->look m4 43 = .bool (t2)->HS ⟨S,[],w⟩ S4 w14 [.blk pb1 (([v1])) 103,.osl (v1) (t1.2).length 1 cs1 rs1 99,.blk b2 ((cl26 y2.1)) 26,.blk b1 ((cl26 y1.1)) 26]->K9 m4 w14:=by
   clear H;intro m4 w14 k4 q7 H;have q8:=(k4 1 rfl).trans ((k3 1).trans q2);have q9:=(k4 2 rfl).trans ((k3 2).trans q3);have q10:=(k4 4 rfl).trans ((k3 4).trans q4);have q11:=(k4 6 rfl).trans ((k3 6).trans q5);have q12:=(k4 7 rfl).trans ((k3 7).trans q6);refine hK9 _ _<|xk hK7 ?_;refine zcF q7 (fun hc1=>?_) (fun hc1=>?_)
   ·replace hF2:=zjY hF2 hc1;refine sr fun K10 hK10=>asB rfl<|xk hK10<|wp_ret<|zgF ?_;obtain rfl:=osi hF2;refine e_1 rfl (zcB rfl) ?_;exact⟨rfl,H.toExt⟩
   ·replace hF2:=zkD hF2 hc1;refine wp_skip<|xn hK6<|sr fun K11 hK11=>p_mv (v:=.pointer (some ⟨pb1,0,none⟩)) q12<|bn hF2 fun y9 e9 hF2=>zaQ is19 rfl<|(zxZ (zxS H.sub) (rpK (HS.blkAt H (k:=0) rfl) (rpL (RdS.ofOwn H (k:=1) rfl g1))) e9).mono<|H.xe fun w15 H=>mvU rfl<|zaA (zaG (v:=str (y9.1)) rfl rfl) ?_;refine zaA (zaG (v:=str (y9.2)) rfl rfl)<|asT rfl<|asT rfl<|xk hK11<|wp_seq_k fun K12 hK12=>bn hF2 fun y10 e10 hF2=>?_;rcases cB (((y1.1:Qp)==(y10:Qp)))with hb3|hb3
    ·replace hF2:=zjY hF2 hb3;rcases cB ((y1.2==0))with hb4|hb4
     ·replace hF2:=zjY hF2 hb4;rcases cB ((y2.2==80))with hb5|hb5
      ·replace hF2:=zjY hF2 hb5;rcases cB ((y4.2==80))with hb6|hb6
       ·replace hF2:=zjY hF2 hb6;refine bn hF2 fun y11 e11 hF2=>?_;rcases cB (y11)with hb7|hb7
        ·replace hF2:=zjY hF2 hb7;refine bn hF2 fun y12 e12 hF2=>?_;rcases cB ((!y12))with hb8|hb8
         ·replace hF2:=zjY hF2 hb8;refine bn hF2 fun y13 e13 hF2=>wrS H 40 [(1,.inl (.agg ((cl26 y10)).toArray)),(19,.inl (.bool (y11))),(24,.inl (.bool (y12))),(29,.inl (.bool (y13)))] fun vs1 H=>?_;refine t_v (fun w hx=>zcA (l:=(cl26 y1.1)) tg26 (H.ext hx) q8 (k:=3) rfl rfl rfl)<|tcx is41 (fun w hx=>zfE (H.ext hx).sub e10)<|tp (zwL eg26 (by decide) (ygO y1.1 y10) rfl rfl)<|tp (zaD (v:=.bool (((y1.1:Qp)==(y10:Qp)))) rfl)<|zbI rfl hb3 (fun w hx=>zaD q9) rfl rfl<|zbI rfl hb3 (fun w hx=>zhB rfl rfl) rfl rfl ?_;refine tp (zbV (v:=.bool ((y1.2==0))) rfl hb3 rfl)<|tp (zaD (v:=.bool ((y1.2==0))) rfl)<|zbI rfl hb4 (fun w hx=>zaD q10) rfl rfl<|zbI rfl hb4 (fun w hx=>zhB rfl rfl) rfl rfl<|tp (zbV (v:=.bool ((y2.2==80))) rfl hb4 rfl)<|tp (zaD (v:=.bool ((y2.2==80))) rfl)<|zbI rfl hb5 (fun w hx=>zaD q11) rfl rfl ?_;refine zbI rfl hb5 (fun w hx=>zhB rfl rfl) rfl rfl<|tp (zbV (v:=.bool ((y4.2==80))) rfl hb5 rfl)<|tp (zaD (v:=.bool ((y4.2==80))) rfl)<|zbI rfl hb6 (fun w hx=>zaD (v:=.pointer (some ⟨pb1,0,none⟩)) q12) rfl rfl<|zbI rfl hb6 (fun w hx=>zaD (v:=str (y9.1)) rfl) rfl rfl<|zbI rfl hb6 (fun w hx=>zaD (v:=str (y9.2)) rfl) rfl rfl ?_;refine ziZ rfl hb6 (l:=[.pointer (some ⟨pb1,0,none⟩),str (y9.1),str (([115]:Bs)),str (y9.2)]) rfl rfl is21 rfl (fun w hx hF=>(zfC (zxS (H.ext hx).sub) (rpK (HS.blkAt (H.ext hx) (k:=0) rfl) (rpL (RdS.ofOwn (H.ext hx) (k:=1) rfl g1))) e11).mono (fun _ _ h=>h))<|tp (zbV (v:=.bool (y11)) rfl hb6 rfl)<|tp (zaD (v:=.bool (y11)) rfl) ?_;refine zbI rfl hb7 (fun w hx=>zaD (v:=.pointer (some ⟨pb1,0,none⟩)) q12) rfl rfl<|zbI rfl hb7 (fun w hx=>zaD (v:=str (y9.2)) rfl) rfl rfl ?_;refine ziZ rfl hb7 (l:=[.pointer (some ⟨pb1,0,none⟩),str (([]:Bs)),str (([115]:Bs)),str (y9.2)]) rfl rfl is21 rfl (fun w hx hF=>(zfC (zxS (H.ext hx).sub) (rpK (HS.blkAt (H.ext hx) (k:=0) rfl) (rpL (RdS.ofOwn (H.ext hx) (k:=1) rfl g1))) e12).mono (fun _ _ h=>h))<|zbI rfl hb7 (fun w hx=>zrF (t:=(!y12)) rfl rfl) rfl rfl ?_;refine tp (zbV (v:=.bool ((!y12))) rfl hb7 rfl)<|tp (zaD (v:=.bool ((!y12))) rfl)<|zbI rfl hb8 (fun w hx=>zcA (l:=(cl26 y1.1)) tg26 (H.ext hx) q8 (k:=3) rfl rfl rfl) rfl rfl<|ziZ rfl hb8 (l:=[.agg ((cl26 y1.1)).toArray,str (([]:Bs)),str (([]:Bs))]) rfl rfl is14 rfl (fun w hx hF=>(ztD (H.ext hx).sub e13).mono (fun _ _ h=>h)) ?_;refine zbI rfl hb8 (fun w hx=>zrF (t:=(!y13)) rfl rfl) rfl rfl<|tp (zbV (v:=.bool ((!y13))) rfl hb8 rfl)<|tp (zaD (v:=.bool ((!y13))) rfl)<|tp (ykU (t:=(bif(!y13)then true else false)) rfl rfl rfl rfl)<|tp (zaD (v:=.bool ((bif(!y13)then true else false))) rfl)<|tp (ykU (t:=(bif(bif(!y13)then true else false)then true else false)) rfl rfl rfl rfl) ?_;refine tp (zaD (v:=.bool ((bif(bif(!y13)then true else false)then true else false))) rfl)<|tp (ykU (t:=(bif(bif(bif(!y13)then true else false)then true else false)then true else false)) rfl rfl rfl rfl)<|tp (zaD (v:=.bool ((bif(bif(bif(!y13)then true else false)then true else false)then true else false))) rfl) ?_;refine tp (ykU (t:=(bif(bif(bif(bif(!y13)then true else false)then true else false)then true else false)then true else false)) rfl rfl rfl rfl)<|zbX<|H.tn fun w16 H=>asB rfl<|wpList_nil<|zaO<|xn hK12<|wp_ret ?_;obtain rfl:=osi hF2;refine e_1 rfl (zcB rfl) ?_;exact⟨rfl,H.toExt⟩
         ·replace hF2:=zkD hF2 hb8;refine wrS H 40 [(1,.inl (.agg ((cl26 y10)).toArray)),(19,.inl (.bool (y11))),(24,.inl (.bool (y12)))] fun vs1 H=>?_;refine t_v (fun w hx=>zcA (l:=(cl26 y1.1)) tg26 (H.ext hx) q8 (k:=3) rfl rfl rfl)<|tcx is41 (fun w hx=>zfE (H.ext hx).sub e10)<|tp (zwL eg26 (by decide) (ygO y1.1 y10) rfl rfl)<|tp (zaD (v:=.bool (((y1.1:Qp)==(y10:Qp)))) rfl)<|zbI rfl hb3 (fun w hx=>zaD q9) rfl rfl<|zbI rfl hb3 (fun w hx=>zhB rfl rfl) rfl rfl ?_;refine tp (zbV (v:=.bool ((y1.2==0))) rfl hb3 rfl)<|tp (zaD (v:=.bool ((y1.2==0))) rfl)<|zbI rfl hb4 (fun w hx=>zaD q10) rfl rfl<|zbI rfl hb4 (fun w hx=>zhB rfl rfl) rfl rfl<|tp (zbV (v:=.bool ((y2.2==80))) rfl hb4 rfl)<|tp (zaD (v:=.bool ((y2.2==80))) rfl)<|zbI rfl hb5 (fun w hx=>zaD q11) rfl rfl ?_;refine zbI rfl hb5 (fun w hx=>zhB rfl rfl) rfl rfl<|tp (zbV (v:=.bool ((y4.2==80))) rfl hb5 rfl)<|tp (zaD (v:=.bool ((y4.2==80))) rfl)<|zbI rfl hb6 (fun w hx=>zaD (v:=.pointer (some ⟨pb1,0,none⟩)) q12) rfl rfl<|zbI rfl hb6 (fun w hx=>zaD (v:=str (y9.1)) rfl) rfl rfl<|zbI rfl hb6 (fun w hx=>zaD (v:=str (y9.2)) rfl) rfl rfl ?_;refine ziZ rfl hb6 (l:=[.pointer (some ⟨pb1,0,none⟩),str (y9.1),str (([115]:Bs)),str (y9.2)]) rfl rfl is21 rfl (fun w hx hF=>(zfC (zxS (H.ext hx).sub) (rpK (HS.blkAt (H.ext hx) (k:=0) rfl) (rpL (RdS.ofOwn (H.ext hx) (k:=1) rfl g1))) e11).mono (fun _ _ h=>h))<|tp (zbV (v:=.bool (y11)) rfl hb6 rfl)<|tp (zaD (v:=.bool (y11)) rfl) ?_;refine zbI rfl hb7 (fun w hx=>zaD (v:=.pointer (some ⟨pb1,0,none⟩)) q12) rfl rfl<|zbI rfl hb7 (fun w hx=>zaD (v:=str (y9.2)) rfl) rfl rfl ?_;refine ziZ rfl hb7 (l:=[.pointer (some ⟨pb1,0,none⟩),str (([]:Bs)),str (([115]:Bs)),str (y9.2)]) rfl rfl is21 rfl (fun w hx hF=>(zfC (zxS (H.ext hx).sub) (rpK (HS.blkAt (H.ext hx) (k:=0) rfl) (rpL (RdS.ofOwn (H.ext hx) (k:=1) rfl g1))) e12).mono (fun _ _ h=>h))<|zbI rfl hb7 (fun w hx=>zrF (t:=(!y12)) rfl rfl) rfl rfl ?_;refine tp (zbV (v:=.bool ((!y12))) rfl hb7 rfl)<|tp (zaD (v:=.bool ((!y12))) rfl)<|zaS rfl hb8 rfl ?_;rw[zaI];refine zaS rfl hb8 rfl ?_;rw[zaI];refine zaS rfl hb8 rfl ?_;rw[zaI];refine tp (zaU (v:=.bool (false)) rfl hb8 rfl)<|tp (zaD (v:=.bool (false)) rfl)<|tp (zaU (v:=.bool (false)) rfl rfl rfl)<|tp (zaD (v:=.bool (false)) rfl)<|tp (zaU (v:=.bool (false)) rfl rfl rfl)<|tp (zaD (v:=.bool (false)) rfl)<|tp (zaU (v:=.bool (false)) rfl rfl rfl)<|tp (zaD (v:=.bool (false)) rfl)<|tp (zaU (v:=.bool (false)) rfl rfl rfl) ?_;refine zbX<|H.tn fun w17 H=>asB rfl<|wpList_nil<|zaO<|xn hK12<|wp_ret ?_;obtain rfl:=osi hF2;refine e_1 rfl (zcB rfl) ?_;exact⟨rfl,H.toExt⟩
        ·replace hF2:=zkD hF2 hb7;refine wrS H 40 [(1,.inl (.agg ((cl26 y10)).toArray)),(19,.inl (.bool (y11)))] fun vs1 H=>?_;refine t_v (fun w hx=>zcA (l:=(cl26 y1.1)) tg26 (H.ext hx) q8 (k:=3) rfl rfl rfl)<|tcx is41 (fun w hx=>zfE (H.ext hx).sub e10)<|tp (zwL eg26 (by decide) (ygO y1.1 y10) rfl rfl)<|tp (zaD (v:=.bool (((y1.1:Qp)==(y10:Qp)))) rfl)<|zbI rfl hb3 (fun w hx=>zaD q9) rfl rfl<|zbI rfl hb3 (fun w hx=>zhB rfl rfl) rfl rfl ?_;refine tp (zbV (v:=.bool ((y1.2==0))) rfl hb3 rfl)<|tp (zaD (v:=.bool ((y1.2==0))) rfl)<|zbI rfl hb4 (fun w hx=>zaD q10) rfl rfl<|zbI rfl hb4 (fun w hx=>zhB rfl rfl) rfl rfl<|tp (zbV (v:=.bool ((y2.2==80))) rfl hb4 rfl)<|tp (zaD (v:=.bool ((y2.2==80))) rfl)<|zbI rfl hb5 (fun w hx=>zaD q11) rfl rfl ?_;refine zbI rfl hb5 (fun w hx=>zhB rfl rfl) rfl rfl<|tp (zbV (v:=.bool ((y4.2==80))) rfl hb5 rfl)<|tp (zaD (v:=.bool ((y4.2==80))) rfl)<|zbI rfl hb6 (fun w hx=>zaD (v:=.pointer (some ⟨pb1,0,none⟩)) q12) rfl rfl<|zbI rfl hb6 (fun w hx=>zaD (v:=str (y9.1)) rfl) rfl rfl<|zbI rfl hb6 (fun w hx=>zaD (v:=str (y9.2)) rfl) rfl rfl ?_;refine ziZ rfl hb6 (l:=[.pointer (some ⟨pb1,0,none⟩),str (y9.1),str (([115]:Bs)),str (y9.2)]) rfl rfl is21 rfl (fun w hx hF=>(zfC (zxS (H.ext hx).sub) (rpK (HS.blkAt (H.ext hx) (k:=0) rfl) (rpL (RdS.ofOwn (H.ext hx) (k:=1) rfl g1))) e11).mono (fun _ _ h=>h))<|tp (zbV (v:=.bool (y11)) rfl hb6 rfl)<|tp (zaD (v:=.bool (y11)) rfl)<|zaS rfl hb7 rfl ?_;rw[zaI];refine zaS rfl hb7 rfl ?_;rw[zaI];refine zaS rfl hb7 rfl ?_;rw[zaI];refine zaS rfl hb7 rfl ?_;rw[zaI];refine tp (zaU (v:=.bool (false)) rfl hb7 rfl)<|tp (zaD (v:=.bool (false)) rfl)<|zaS rfl rfl rfl ?_;rw[zaI];refine zaS rfl rfl rfl ?_;rw[zaI];refine zaS rfl rfl rfl ?_;rw[zaI];refine tp (zaU (v:=.bool (false)) rfl rfl rfl)<|tp (zaD (v:=.bool (false)) rfl)<|tp (zaU (v:=.bool (false)) rfl rfl rfl)<|tp (zaD (v:=.bool (false)) rfl)<|tp (zaU (v:=.bool (false)) rfl rfl rfl)<|tp (zaD (v:=.bool (false)) rfl)<|tp (zaU (v:=.bool (false)) rfl rfl rfl)<|tp (zaD (v:=.bool (false)) rfl)<|tp (zaU (v:=.bool (false)) rfl rfl rfl) ?_;refine zbX<|H.tn fun w18 H=>asB rfl<|wpList_nil<|zaO<|xn hK12<|wp_ret ?_;obtain rfl:=osi hF2;refine e_1 rfl (zcB rfl) ?_;exact⟨rfl,H.toExt⟩
       ·replace hF2:=zkD hF2 hb6;refine wrS H 40 [(1,.inl (.agg ((cl26 y10)).toArray))] fun vs1 H=>?_;refine t_v (fun w hx=>zcA (l:=(cl26 y1.1)) tg26 (H.ext hx) q8 (k:=3) rfl rfl rfl)<|tcx is41 (fun w hx=>zfE (H.ext hx).sub e10)<|tp (zwL eg26 (by decide) (ygO y1.1 y10) rfl rfl)<|tp (zaD (v:=.bool (((y1.1:Qp)==(y10:Qp)))) rfl)<|zbI rfl hb3 (fun w hx=>zaD q9) rfl rfl<|zbI rfl hb3 (fun w hx=>zhB rfl rfl) rfl rfl ?_;refine tp (zbV (v:=.bool ((y1.2==0))) rfl hb3 rfl)<|tp (zaD (v:=.bool ((y1.2==0))) rfl)<|zbI rfl hb4 (fun w hx=>zaD q10) rfl rfl<|zbI rfl hb4 (fun w hx=>zhB rfl rfl) rfl rfl<|tp (zbV (v:=.bool ((y2.2==80))) rfl hb4 rfl)<|tp (zaD (v:=.bool ((y2.2==80))) rfl)<|zbI rfl hb5 (fun w hx=>zaD q11) rfl rfl ?_;refine zbI rfl hb5 (fun w hx=>zhB rfl rfl) rfl rfl<|tp (zbV (v:=.bool ((y4.2==80))) rfl hb5 rfl)<|tp (zaD (v:=.bool ((y4.2==80))) rfl)<|zaS rfl hb6 rfl ?_;rw[zaI];refine zaS rfl hb6 rfl ?_;rw[zaI];refine zaS rfl hb6 rfl ?_;rw[zaI];refine zaS rfl hb6 rfl ?_;rw[zaI];refine tp (zaU (v:=.bool (false)) rfl hb6 rfl)<|tp (zaD (v:=.bool (false)) rfl)<|zaS rfl rfl rfl ?_;rw[zaI];refine zaS rfl rfl rfl ?_;rw[zaI];refine zaS rfl rfl rfl ?_;rw[zaI];refine zaS rfl rfl rfl ?_;rw[zaI];refine tp (zaU (v:=.bool (false)) rfl rfl rfl)<|tp (zaD (v:=.bool (false)) rfl)<|zaS rfl rfl rfl ?_;rw[zaI];refine zaS rfl rfl rfl ?_;rw[zaI];refine zaS rfl rfl rfl ?_;rw[zaI];refine tp (zaU (v:=.bool (false)) rfl rfl rfl)<|tp (zaD (v:=.bool (false)) rfl)<|tp (zaU (v:=.bool (false)) rfl rfl rfl)<|tp (zaD (v:=.bool (false)) rfl)<|tp (zaU (v:=.bool (false)) rfl rfl rfl)<|tp (zaD (v:=.bool (false)) rfl)<|tp (zaU (v:=.bool (false)) rfl rfl rfl)<|tp (zaD (v:=.bool (false)) rfl)<|tp (zaU (v:=.bool (false)) rfl rfl rfl) ?_;refine zbX<|H.tn fun w19 H=>asB rfl<|wpList_nil<|zaO<|xn hK12<|wp_ret ?_;obtain rfl:=osi hF2;refine e_1 rfl (zcB rfl) ?_;exact⟨rfl,H.toExt⟩
      ·replace hF2:=zkD hF2 hb5;refine wrS H 40 [(1,.inl (.agg ((cl26 y10)).toArray))] fun vs1 H=>?_;refine t_v (fun w hx=>zcA (l:=(cl26 y1.1)) tg26 (H.ext hx) q8 (k:=3) rfl rfl rfl)<|tcx is41 (fun w hx=>zfE (H.ext hx).sub e10)<|tp (zwL eg26 (by decide) (ygO y1.1 y10) rfl rfl)<|tp (zaD (v:=.bool (((y1.1:Qp)==(y10:Qp)))) rfl)<|zbI rfl hb3 (fun w hx=>zaD q9) rfl rfl<|zbI rfl hb3 (fun w hx=>zhB rfl rfl) rfl rfl ?_;refine tp (zbV (v:=.bool ((y1.2==0))) rfl hb3 rfl)<|tp (zaD (v:=.bool ((y1.2==0))) rfl)<|zbI rfl hb4 (fun w hx=>zaD q10) rfl rfl<|zbI rfl hb4 (fun w hx=>zhB rfl rfl) rfl rfl<|tp (zbV (v:=.bool ((y2.2==80))) rfl hb4 rfl)<|tp (zaD (v:=.bool ((y2.2==80))) rfl)<|zaS rfl hb5 rfl ?_;rw[zaI];refine zaS rfl hb5 rfl ?_;rw[zaI];refine tp (zaU (v:=.bool (false)) rfl hb5 rfl)<|tp (zaD (v:=.bool (false)) rfl)<|zaS rfl rfl rfl ?_;rw[zaI];refine zaS rfl rfl rfl ?_;rw[zaI];refine zaS rfl rfl rfl ?_;rw[zaI];refine zaS rfl rfl rfl ?_;rw[zaI];refine tp (zaU (v:=.bool (false)) rfl rfl rfl)<|tp (zaD (v:=.bool (false)) rfl)<|zaS rfl rfl rfl ?_;rw[zaI];refine zaS rfl rfl rfl ?_;rw[zaI];refine zaS rfl rfl rfl ?_;rw[zaI];refine zaS rfl rfl rfl ?_;rw[zaI];refine tp (zaU (v:=.bool (false)) rfl rfl rfl)<|tp (zaD (v:=.bool (false)) rfl)<|zaS rfl rfl rfl ?_;rw[zaI];refine zaS rfl rfl rfl ?_;rw[zaI];refine zaS rfl rfl rfl ?_;rw[zaI];refine tp (zaU (v:=.bool (false)) rfl rfl rfl)<|tp (zaD (v:=.bool (false)) rfl)<|tp (zaU (v:=.bool (false)) rfl rfl rfl)<|tp (zaD (v:=.bool (false)) rfl)<|tp (zaU (v:=.bool (false)) rfl rfl rfl)<|tp (zaD (v:=.bool (false)) rfl)<|tp (zaU (v:=.bool (false)) rfl rfl rfl)<|tp (zaD (v:=.bool (false)) rfl)<|tp (zaU (v:=.bool (false)) rfl rfl rfl) ?_;refine zbX<|H.tn fun w20 H=>asB rfl<|wpList_nil<|zaO<|xn hK12<|wp_ret ?_;obtain rfl:=osi hF2;refine e_1 rfl (zcB rfl) ?_;exact⟨rfl,H.toExt⟩
     ·replace hF2:=zkD hF2 hb4;refine wrS H 40 [(1,.inl (.agg ((cl26 y10)).toArray))] fun vs1 H=>?_;refine t_v (fun w hx=>zcA (l:=(cl26 y1.1)) tg26 (H.ext hx) q8 (k:=3) rfl rfl rfl)<|tcx is41 (fun w hx=>zfE (H.ext hx).sub e10)<|tp (zwL eg26 (by decide) (ygO y1.1 y10) rfl rfl)<|tp (zaD (v:=.bool (((y1.1:Qp)==(y10:Qp)))) rfl)<|zbI rfl hb3 (fun w hx=>zaD q9) rfl rfl<|zbI rfl hb3 (fun w hx=>zhB rfl rfl) rfl rfl ?_;refine tp (zbV (v:=.bool ((y1.2==0))) rfl hb3 rfl)<|tp (zaD (v:=.bool ((y1.2==0))) rfl)<|zaS rfl hb4 rfl ?_;rw[zaI];refine zaS rfl hb4 rfl ?_;rw[zaI];refine tp (zaU (v:=.bool (false)) rfl hb4 rfl)<|tp (zaD (v:=.bool (false)) rfl)<|zaS rfl rfl rfl ?_;rw[zaI];refine zaS rfl rfl rfl ?_;rw[zaI];refine tp (zaU (v:=.bool (false)) rfl rfl rfl)<|tp (zaD (v:=.bool (false)) rfl)<|zaS rfl rfl rfl ?_;rw[zaI];refine zaS rfl rfl rfl ?_;rw[zaI];refine zaS rfl rfl rfl ?_;rw[zaI];refine zaS rfl rfl rfl ?_;rw[zaI];refine tp (zaU (v:=.bool (false)) rfl rfl rfl)<|tp (zaD (v:=.bool (false)) rfl)<|zaS rfl rfl rfl ?_;rw[zaI];refine zaS rfl rfl rfl ?_;rw[zaI];refine zaS rfl rfl rfl ?_;rw[zaI];refine zaS rfl rfl rfl ?_;rw[zaI];refine tp (zaU (v:=.bool (false)) rfl rfl rfl)<|tp (zaD (v:=.bool (false)) rfl)<|zaS rfl rfl rfl ?_;rw[zaI];refine zaS rfl rfl rfl ?_;rw[zaI];refine zaS rfl rfl rfl ?_;rw[zaI];refine tp (zaU (v:=.bool (false)) rfl rfl rfl)<|tp (zaD (v:=.bool (false)) rfl)<|tp (zaU (v:=.bool (false)) rfl rfl rfl)<|tp (zaD (v:=.bool (false)) rfl)<|tp (zaU (v:=.bool (false)) rfl rfl rfl)<|tp (zaD (v:=.bool (false)) rfl)<|tp (zaU (v:=.bool (false)) rfl rfl rfl)<|tp (zaD (v:=.bool (false)) rfl)<|tp (zaU (v:=.bool (false)) rfl rfl rfl) ?_;refine zbX<|H.tn fun w21 H=>asB rfl<|wpList_nil<|zaO<|xn hK12<|wp_ret ?_;obtain rfl:=osi hF2;refine e_1 rfl (zcB rfl) ?_;exact⟨rfl,H.toExt⟩
    ·replace hF2:=zkD hF2 hb3;refine wrS H 40 [(1,.inl (.agg ((cl26 y10)).toArray))] fun vs1 H=>?_;refine t_v (fun w hx=>zcA (l:=(cl26 y1.1)) tg26 (H.ext hx) q8 (k:=3) rfl rfl rfl)<|tcx is41 (fun w hx=>zfE (H.ext hx).sub e10)<|tp (zwL eg26 (by decide) (ygO y1.1 y10) rfl rfl)<|tp (zaD (v:=.bool (((y1.1:Qp)==(y10:Qp)))) rfl)<|zaS rfl hb3 rfl ?_;rw[zaI];refine zaS rfl hb3 rfl ?_;rw[zaI];refine tp (zaU (v:=.bool (false)) rfl hb3 rfl)<|tp (zaD (v:=.bool (false)) rfl)<|zaS rfl rfl rfl ?_;rw[zaI];refine zaS rfl rfl rfl ?_;rw[zaI];refine tp (zaU (v:=.bool (false)) rfl rfl rfl)<|tp (zaD (v:=.bool (false)) rfl)<|zaS rfl rfl rfl ?_;rw[zaI];refine zaS rfl rfl rfl ?_;rw[zaI];refine tp (zaU (v:=.bool (false)) rfl rfl rfl)<|tp (zaD (v:=.bool (false)) rfl)<|zaS rfl rfl rfl ?_;rw[zaI];refine zaS rfl rfl rfl ?_;rw[zaI];refine zaS rfl rfl rfl ?_;rw[zaI];refine zaS rfl rfl rfl ?_;rw[zaI];refine tp (zaU (v:=.bool (false)) rfl rfl rfl)<|tp (zaD (v:=.bool (false)) rfl)<|zaS rfl rfl rfl ?_;rw[zaI];refine zaS rfl rfl rfl ?_;rw[zaI];refine zaS rfl rfl rfl ?_;rw[zaI];refine zaS rfl rfl rfl ?_;rw[zaI];refine tp (zaU (v:=.bool (false)) rfl rfl rfl)<|tp (zaD (v:=.bool (false)) rfl)<|zaS rfl rfl rfl ?_;rw[zaI];refine zaS rfl rfl rfl ?_;rw[zaI];refine zaS rfl rfl rfl ?_;rw[zaI];refine tp (zaU (v:=.bool (false)) rfl rfl rfl)<|tp (zaD (v:=.bool (false)) rfl)<|tp (zaU (v:=.bool (false)) rfl rfl rfl)<|tp (zaD (v:=.bool (false)) rfl)<|tp (zaU (v:=.bool (false)) rfl rfl rfl)<|tp (zaD (v:=.bool (false)) rfl)<|tp (zaU (v:=.bool (false)) rfl rfl rfl)<|tp (zaD (v:=.bool (false)) rfl)<|tp (zaU (v:=.bool (false)) rfl rfl rfl) ?_;refine zbX<|H.tn fun w22 H=>asB rfl<|wpList_nil<|zaO<|xn hK12<|wp_ret ?_;obtain rfl:=osi hF2;refine e_1 rfl (zcB rfl) ?_;exact⟨rfl,H.toExt⟩
  refine p_gs (j:=12) (zbC rfl rfl (k3 38)) (fun hb2=>?_) (fun hb2=>?_)
  ·replace hE2:=zjY hE2 hb2;refine zdG (zbC rfl rfl (k3 38)) hb2 ?_;rw[zaI];refine zdG (zbC rfl rfl (k3 38)) hb2 ?_;rw[zaI];refine zdG (zbC rfl rfl (k3 38)) hb2 ?_;rw[zaI];refine zdG (zbC rfl rfl (k3 38)) hb2 ?_;rw[zaI];refine zaA (zbV (v:=.bool (true)) (k3 38) hb2 rfl)<|hR8 _ _ ?_;obtain rfl:=osi hE2;exact J1 _ _ kcx rfl H
  ·replace hE2:=zkD hE2 hb2;refine zcX (zbC rfl rfl (k3 38)) hb2<|p_mv (v:=.pointer (some ⟨pb1,0,none⟩)) ((k3 7).trans q6)<|zcX (zbC rfl rfl (k3 38)) hb2<|bn hE2 fun y8 e8 hE2=>zaQ is26 rfl<|(zvQ (HS.start (zxS H.sub)) (rpK (HS.blkAt H (k:=0) rfl) (rpL (RdS.ofOwn H (k:=1) rfl g1))) e8).mono ?_;rintro _ w13 ⟨S5,pv4,pcs4,prs4,rfl,H2,pg4⟩;have H1:=H.joinNew H2;clear H H2;have H:=H1;clear H1;replace pg4:=RL.strs (T:=S4) pg4;refine zcX (zbC rfl rfl (k3 38)) hb2<|zaA (zwP u40 rfl H (k:=0) rfl rfl)<|zcX (zbC rfl rfl (k3 38)) hb2<|zaA (zxU rfl rfl)<|zaA (zaU (v:=.bool ((((y8).length:Int) != 2))) (k3 38) hb2 rfl)<|hR8 _ _ ?_;replace H:=H.sel [1,2,3,4] rfl;replace H:=hsn H;obtain rfl:=osi hE2;exact J1 _ _ kcx rfl H
 refine p_gs (j:=7) (zbC rfl rfl (k1 33)) (fun hb1=>?_) (fun hb1=>?_)
 ·replace hE1:=zjY hE1 hb1;refine zdG (zbC rfl rfl (k1 33)) hb1 ?_;rw[zaI];refine zdG (zbC rfl rfl (k1 33)) hb1 ?_;rw[zaI];refine zdG (zbC rfl rfl (k1 33)) hb1 ?_;rw[zaI];refine zaA (zbV (v:=.bool (true)) (k1 33) hb1 rfl)<|hR6 _ _ ?_;obtain rfl:=osi hE1;exact J2 _ _ _ _ _ _ kcx rfl (Mem.le_refl _) H pg2
 ·replace hE1:=zkD hE1 hb1;refine zcX (zbC rfl rfl (k1 33)) hb1<|p_mv (v:=.pointer (some ⟨pb1,0,none⟩)) (k1 7)<|zcX (zbC rfl rfl (k1 33)) hb1<|bn hE1 fun y7 e7 hE1=>zaQ is17 rfl<|(zoO (H.hand [0,1] rfl) pg2 e7).mono ?_;rintro _ w11 ⟨S3,pv3,pcs3,prs3,rfl,H2,pg3⟩;obtain⟨H1,hle3⟩:=H.frame [0,1] [2,3] rfl H2;clear H H2;have H:=H1;clear H1;replace H:=hsn H;refine zcX (zbC rfl rfl (k1 33)) hb1<|zaA (zxU rfl rfl)<|zaA (zaU (v:=.bool ((y7.1 != 0))) (k1 33) hb1 rfl)<|hR6 _ _ ?_;obtain rfl:=osi hE1;exact J2 _ _ _ _ _ _ kcx rfl hle3 H pg3
end
section
variable {α:Type}{n:Nat}
def vset(x:Vec α n)(i:Nat)(u:α):Vec α n:=⟨x.l.set i u,by simp[x.h]⟩
def gv(x:Vec UInt32 64)(i:Nat):UInt32:=x.l.getD i 0
theorem ynZ{x:Vec α n}{i:Nat}{j:Int}{u:α}(hj:j=(i:Int))(h:i<n):setV x j u=some (vset x i u):=by subst hj;unfold setV;rw[show(decide (0<=(i:Int))&&decide ((i:Int)<(n:Int)))=true by simp;exact h];exact congrArg some (Vec.eq (by rw[vset];simp))
theorem zoS{x:Vec UInt32 64}{i:Nat}{j:Int}(hj:j=(i:Int))(h:i<64):idx x.l j=some (gv x i):=by
 have h':i<x.l.length:=by rw[x.h];exact h
 rw[zuW hj h',gv,cX,aI h'];rfl
theorem w64n{n:Nat}(h:n<9223372036854775808):w64 (n:Int)=(n:Int):=zpV (by omega) (by omega)
theorem w64s(n:Nat)(h:n<9223372036854775807):w64 ((n:Int)+1)=((n+1:Nat):Int):=zpV (by omega) (by omega)
def rr(x:UInt32)(n:Nat):UInt32:=i32 (shlI .u32 (x.toNat:Int) ((32-n:Nat):Int))|||i32 (shrI .u32 (x.toNat:Int) (n:Int))
theorem zqZ(x:UInt32)(n:Nat){m:Int}(h1:((((i64 (w64 (0-m)))&&&(31:UInt64))).toNat:Int)=((32-n:Nat):Int))(h2:(((i64 ((32:Int)-((32-n:Nat):Int)))).toNat:Int)=(n:Int)):zbA x m=some (rr x n):=by unfold zbA zfA;simp only[zaB];rw[h1,h2];rfl
def valF(l:Bs):UInt64:=l.foldl (fun s b=>(i64 (shlI .u64 (s.toNat:Int) 8))|||(i64 (b.toNat:Int))) 0
theorem xaP{l:Bs}(h:l.length<1000000):zmF l=some (valF l):=by
 have key:iter (zkG l) ((0:UInt64),0)=some (valF l):=by
  refine zeV (fun k=>(valF (l.take k),(k:Int))) l.length (by omega) _ (fun k hk=>?_) ?_
  ·unfold zkG;rw[ziR (by omega),zuW rfl hk];simp only[zaB];rw[w64s k (by omega),ztJ hk];simp only[valF,List.foldl_append,List.foldl_cons,List.foldl_nil]
  ·unfold zkG;rw[zjF (by omega),List.take_length]
 unfold zmF;rw[key];rfl
end
abbrev St8:Type:=Qs
def W1(blk:Bs):Nat->Vec UInt32 64
 |0=>vrep 64 0|k+1=>vset (W1 blk k) k (i32 (((valF ((blk.take (4*k+4)).drop (4*k))).toNat:Int)))
def extW(a b c d:UInt32):UInt32:=i32 ((((i32 ((((i32 (((c).toNat:Int)+((((rr a 7^^^rr a 18)^^^(i32 (shrI .u32 ((a).toNat:Int) 3)))).toNat:Int)))).toNat:Int)+((d).toNat:Int)))).toNat:Int)+((((rr b 17^^^rr b 19)^^^(i32 (shrI .u32 ((b).toNat:Int) 10)))).toNat:Int))
def W2(w:Vec UInt32 64):Nat->Vec UInt32 64
 |0=>w|k+1=>vset (W2 w k) (16+k) (extW (gv (W2 w k) (k+1)) (gv (W2 w k) (k+14)) (gv (W2 w k) k) (gv (W2 w k) (k+9)))
def t1F(s:St8)(K w:UInt32):UInt32:=i32 ((((i32 ((((i32 ((((i32 (((s.2.2.2.2.2.2.2).toNat:Int)+((((rr s.2.2.2.2.1 6^^^rr s.2.2.2.2.1 11)^^^rr s.2.2.2.2.1 25)).toNat:Int)))).toNat:Int)+((((s.2.2.2.2.1&&&s.2.2.2.2.2.1)^^^(((4294967295:UInt32)^^^s.2.2.2.2.1)&&&s.2.2.2.2.2.2.1))).toNat:Int)))).toNat:Int)+((K).toNat:Int)))).toNat:Int)+((w).toNat:Int))
def t2F(s:St8):UInt32:=i32 (((((rr s.1 2^^^rr s.1 13)^^^rr s.1 22)).toNat:Int)+(((((s.1&&&s.2.1)^^^(s.1&&&s.2.2.1))^^^(s.2.1&&&s.2.2.1))).toNat:Int))
def rnd(K w:UInt32)(s:St8):St8:=(i32 (((t1F s K w).toNat:Int)+((t2F s).toNat:Int)),s.1,s.2.1,s.2.2.1,i32 (((s.2.2.2.1).toNat:Int)+((t1F s K w).toNat:Int)),s.2.2.2.2.1,s.2.2.2.2.2.1,s.2.2.2.2.2.2.1)
def R3(K w:Vec UInt32 64)(s:St8):Nat->St8
 |0=>s|k+1=>rnd (gv K k) (gv w k) (R3 K w s k)
def ad8(a b:UInt32):UInt32:=i32 (((a).toNat:Int)+((b).toNat:Int))
def add8(v s:St8):St8:=(ad8 v.1 s.1,ad8 v.2.1 s.2.1,ad8 v.2.2.1 s.2.2.1,ad8 v.2.2.2.1 s.2.2.2.1,ad8 v.2.2.2.2.1 s.2.2.2.2.1,ad8 v.2.2.2.2.2.1 s.2.2.2.2.2.1,ad8 v.2.2.2.2.2.2.1 s.2.2.2.2.2.2.1,ad8 v.2.2.2.2.2.2.2 s.2.2.2.2.2.2.2)
def nextF(s:St8)(blk:Bs)(K:Vec UInt32 64):St8:=add8 (R3 K (W2 (W1 blk 16) 48) s 64) s
theorem l0_ok{blk:Bs}(h:blk.length=64):iter (zfY blk) (0,vrep 64 (0:UInt32))=some (W1 blk 16):=by
 refine zeV (fun k=>((k:Int),W1 blk k)) 16 (by decide) _ (fun k hk=>?_) ?_
 ·unfold zfY;have e1:w64 ((4:Int)*(k:Int))=((4*k:Nat):Int):=zpV (by omega) (by omega);have e2:w64 (((4*k:Nat):Int)+4)=((4*k+4:Nat):Int):=zpV (by omega) (by omega);rw[ziR (by omega)];simp only[e1,e2];rw[xeX (by omega) (by omega),zaB,xaP (by simp;omega),zaB,zoS rfl (by omega),zaB,ynZ rfl (by omega),zaB,w64s k (by omega)];rfl
 ·unfold zfY;rw[zjF (by omega)]
theorem l1_ok(w:Vec UInt32 64):iter zfZ (16,w)=some (W2 w 48):=by
 refine zeV (fun k=>(((16+k:Nat):Int),W2 w k)) 48 (by decide) _ (fun k hk=>?_) ?_
 ·unfold zfZ;have e:∀(a:Int) (b:Nat),a=(b:Int)->b<64->w64 a=(b:Int):=fun a b e h=>by rw[e];exact w64n (by omega)
  rw[ziR (by omega)];simp only[e (((16+k:Nat):Int)-15) (k+1) (by omega) (by omega),e (((16+k:Nat):Int)-2) (k+14) (by omega) (by omega),e (((16+k:Nat):Int)-16) k (by omega) (by omega),e (((16+k:Nat):Int)-7) (k+9) (by omega) (by omega)];simp only[zoS (x:=W2 w k) (i:=k+1) rfl (by omega),zoS (x:=W2 w k) (i:=k+14) rfl (by omega),zoS (x:=W2 w k) (i:=k) rfl (by omega),zoS (x:=W2 w k) (i:=k+9) rfl (by omega),zoS (x:=W2 w k) (i:=16+k) rfl (by omega),zaB,zqZ _ 7 (m:=7) (by decide) (by decide),zqZ _ 18 (m:=18) (by decide) (by decide),zqZ _ 17 (m:=17) (by decide) (by decide),zqZ _ 19 (m:=19) (by decide) (by decide),ynZ (x:=W2 w k) (i:=16+k) rfl (by omega)];rw[w64s (16+k) (by omega)];rfl
 ·unfold zfZ;rw[zjF (by omega)]
theorem l2_ok(K w:Vec UInt32 64)(s:St8):iter (zgC K w) (0,s)=some (R3 K w s 64):=by
 refine zeV (fun k=>((k:Int),R3 K w s k)) 64 (by decide) _ (fun k hk=>?_) ?_
 ·unfold zgC;rw[ziR (by omega)];simp only[zoS (x:=K) (i:=k) rfl hk,zoS (x:=w) (i:=k) rfl hk,zaB,zqZ _ 6 (m:=6) (by decide) (by decide),zqZ _ 11 (m:=11) (by decide) (by decide),zqZ _ 25 (m:=25) (by decide) (by decide),zqZ _ 2 (m:=2) (by decide) (by decide),zqZ _ 13 (m:=13) (by decide) (by decide),zqZ _ 22 (m:=22) (by decide) (by decide)];rw[w64s k (by omega)];rfl
 ·unfold zgC;rw[zjF (by omega)]
def pt8(v s:St8)(k:Nat):St8:=(if 0<k then ad8 v.1 s.1 else v.1,if 1<k then ad8 v.2.1 s.2.1 else v.2.1,if 2<k then ad8 v.2.2.1 s.2.2.1 else v.2.2.1,if 3<k then ad8 v.2.2.2.1 s.2.2.2.1 else v.2.2.2.1,if 4<k then ad8 v.2.2.2.2.1 s.2.2.2.2.1 else v.2.2.2.2.1,if 5<k then ad8 v.2.2.2.2.2.1 s.2.2.2.2.2.1 else v.2.2.2.2.2.1,if 6<k then ad8 v.2.2.2.2.2.2.1 s.2.2.2.2.2.2.1 else v.2.2.2.2.2.2.1,if 7<k then ad8 v.2.2.2.2.2.2.2 s.2.2.2.2.2.2.2 else v.2.2.2.2.2.2.2)
theorem l3_ok(s v:St8):iter (zlX s) (0,v)=some (add8 v s):=by
 refine zeV (fun k=>((k:Int),pt8 v s k)) 8 (by decide) _ (fun k hk=>?_) ?_
 ·rcases(by omega:k=0∨k=1∨k=2∨k=3∨k=4∨k=5∨k=6∨k=7)with rfl|rfl|rfl|rfl|rfl|rfl|rfl|rfl<;>rfl
 ·rfl
theorem xeG(s:St8){blk:Bs}(K:Vec UInt32 64)(h:blk.length=64):zgZ s blk K=some (nextF s blk K,K):=by unfold zgZ;rw[l0_ok h,zaB,zaB,l1_ok,zaB,zaB];rw[show(0,s.1,s.2.1,s.2.2.1,s.2.2.2.1,s.2.2.2.2.1,s.2.2.2.2.2.1,s.2.2.2.2.2.2.1,s.2.2.2.2.2.2.2)=((0:Int),s)from rfl,l2_ok,zaB,zaB];rw[show ∀t:St8,(0,t.1,t.2.1,t.2.2.1,t.2.2.2.1,t.2.2.2.2.1,t.2.2.2.2.2.1,t.2.2.2.2.2.2.1,t.2.2.2.2.2.2.2)=((0:Int),t)from fun _=>rfl,l3_ok,zaB,zaB];rfl
def byF(x:UInt64)(i:Nat):UInt8:=i8 (((i64 (shrI .u64 ((x).toNat:Int) ((8*i:Nat):Int)))).toNat:Int)
def beF(x:UInt64):Nat->Bs
 |0=>[]|i+1=>byF x i::beF x i
theorem zsB(x:UInt64):∀n,(beF x n).length=n
 |0=>rfl|n+1=>by rw[beF,aN,zsB x n]
theorem xaA(x:UInt64)(n:Nat):∀k,k<n->(beF x n).take (k+1)=(beF x n).take k++[byF x (n-1-k)]:=by
 have get:∀n k (h:k<(beF x n).length),(beF x n)[k]=byF x (n-1-k):=by
  intro n;induction n with
  |zero=>intro k h;simp[beF]at h|succ n ih=>
   intro k h;cases k with
   |zero=>simp[beF]|succ k=>simp only[beF,List.getElem_cons_succ];rw[ih k (by simpa[beF]using h)];congr 1;omega
 intro k hk;have h:k<(beF x n).length:=by rw[zsB];exact hk
 rw[ztJ h,get n k h]
theorem xcR{l:Bs}{x:UInt64}{n:Nat}(hn:n<=8)(h:l.length<=68719476000):znB l x (n:Int)=some (l++beF x n):=by
 have e0:w64 ((n:Int)-1)=(n:Int)-1:=zpV (by omega) (by omega);have key:iter (zlG x) ((n:Int)-1,l)=some (l++beF x n):=by
  have:=zeV (body:=zlG x) (fun k=>((n:Int)-1-(k:Int),l++(beF x n).take k)) n (by omega) (l++beF x n) (fun k hk=>by
   unfold zlG;have e1:(n:Int)-1-(k:Int)=((n-1-k:Nat):Int):=by omega
   rw[ziR (by omega)];simp only[e1];have e2:w64 ((8:Int)*((n-1-k:Nat):Int))=((8*(n-1-k):Nat):Int):=zpV (by omega) (by omega);have e3:w64 (((n-1-k:Nat):Int)-1)=(n:Int)-1-((k+1:Nat):Int):=by rw[zpV (by omega) (by omega)];omega
   rw[e2,zkX (zA (by omega)),zaB,zhD (by simp[bZ,zsB];omega),zaB,e3,xaA x n k hk];simp only[bG]
   rfl) (by
   unfold zlG
   rw[zjF (by omega),dJ (by rw[zsB];exact Nat.le_refl _)])
  simpa using this
 unfold znB;rw[e0,key];rfl
def yaP(l:Bs):Bs:=(l++[128])++aO ((119-l.length%64)%64) 0
def msgF(l:Bs):Bs:=yaP l++beF (i64 ((8:Int)*(((i64 ((l.length:Int)))).toNat:Int))) 8
theorem yeC(l:Bs):(yaP l).length%64=56:=by simp only[yaP,aE,eU,aN,aV];omega
theorem ykM(l:Bs):(yaP l).length<=l.length+64:=by simp only[yaP,aE,eU,aN,aV];omega
theorem xaN(l:Bs):(msgF l).length%64=0:=by have:=yeC l;simp only[msgF,aE,zsB];omega
theorem msgF_le(l:Bs):(msgF l).length<=l.length+72:=by have:=ykM l;simp only[msgF,aE,zsB];omega
theorem xcX(n:Nat):Int.tmod (n:Int) 64=((n%64:Nat):Int):=(Int.ofNat_tmod n 64).symm
theorem pad_ok{l:Bs}(h:l.length<=68719470000):iter zlD (l++[128])=some (yaP l):=by
 have:=zeV (body:=zlD) (fun k=>(l++[128])++aO k (0:UInt8)) ((119-l.length%64)%64) (by omega) (yaP l) (fun k hk=>by
  unfold zlD;have hl:((l++[128])++aO k (0:UInt8)).length=l.length+1+k:=by simp;omega
  rw[hl,zoI (by rw[xcX];simp only[bne_iff_ne,ne_eq];omega),zhD (by rw[hl,aN,aV];omega),zaB,bG,<-List.replicate_succ']) (by
  unfold zlD;rw[show(l++[128])++aO ((119-l.length%64)%64) (0:UInt8)=yaP l from rfl];have:=yeC l
  rw[zpA (by rw[xcX,this];rfl)])
 simpa using this
def ini8:St8:=(1779033703,3144134277,1013904242,2773480762,1359893119,2600822924,528734635,1541459225)
def ziQ(K:Vec UInt32 64)(b:Bs):Nat->St8
 |0=>ini8|k+1=>nextF (ziQ K b k) ((b.drop (64*k)).take 64) K
def outF(s:St8):Bs:=beF (i64 (s.1.toNat:Int)) 4++(beF (i64 (s.2.1.toNat:Int)) 4++(beF (i64 (s.2.2.1.toNat:Int)) 4++(beF (i64 (s.2.2.2.1.toNat:Int)) 4++(beF (i64 (s.2.2.2.2.1.toNat:Int)) 4++(beF (i64 (s.2.2.2.2.2.1.toNat:Int)) 4++(beF (i64 (s.2.2.2.2.2.2.1.toNat:Int)) 4++beF (i64 (s.2.2.2.2.2.2.2.toNat:Int)) 4))))))
def at8(s:St8)(k:Nat):UInt32:=([s.1,s.2.1,s.2.2.1,s.2.2.2.1,s.2.2.2.2.1,s.2.2.2.2.2.1,s.2.2.2.2.2.2.1,s.2.2.2.2.2.2.2]:List UInt32).getD k 0
def outN(s:St8):Nat->Bs
 |0=>[]|k+1=>outN s k++beF (i64 ((at8 s k).toNat:Int)) 4
theorem ycZ(s:St8):∀k,(outN s k).length=4*k
 |0=>rfl|k+1=>by rw[outN,aE,ycZ s k,zsB];omega
theorem ysW(s:St8):outN s 8=outF s:=by simp only[outN,outF,at8,cF,bG];rfl
theorem yxD(s:St8):(outF s).length=32:=by rw[<-ysW,ycZ]
def keysF:Vec UInt32 64:=(znK).getD (vrep 64 0)
theorem keys_ok:znK=some keysF:=rfl
def shaF(l:Bs):Bs:=outF (ziQ keysF (msgF l) ((msgF l).length/64))
theorem zvV(l:Bs):(shaF l).length=32:=yxD _
theorem yzU(K:Vec UInt32 64){b:Bs}(h:b.length%64=0)(hl:b.length<=68719476736):iter znW (b,1779033703,3144134277,1013904242,2773480762,1359893119,2600822924,528734635,1541459225,K) =
  some ((ziQ K b (b.length/64)).1,(ziQ K b (b.length/64)).2.1,(ziQ K b (b.length/64)).2.2.1,(ziQ K b (b.length/64)).2.2.2.1,(ziQ K b (b.length/64)).2.2.2.2.1,(ziQ K b (b.length/64)).2.2.2.2.2.1,(ziQ K b (b.length/64)).2.2.2.2.2.2.1,(ziQ K b (b.length/64)).2.2.2.2.2.2.2,K):=by
 refine zeV (fun k=>(b.drop (64*k),(ziQ K b k).1,(ziQ K b k).2.1,(ziQ K b k).2.2.1,(ziQ K b k).2.2.2.1,(ziQ K b k).2.2.2.2.1,(ziQ K b k).2.2.2.2.2.1,(ziQ K b k).2.2.2.2.2.2.1,(ziQ K b k).2.2.2.2.2.2.2,K)) (b.length/64) (by omega) _ (fun k hk=>?_) ?_
 ·unfold znW;have hd:(b.drop (64*k)).length=b.length-64*k:=by simp
  rw[ziR (by simp only[hd];omega)];simp only[];rw[show(64:Int)=((64:Nat):Int)from rfl,zxB (by rw[hd];omega),zaB,xeG _ _ (by simp only[bZ,hd];omega),zaB,yiR (by rw[hd];omega),zaB,eC];rfl
 ·unfold znW;rw[zjF (by simp only[bO];omega)]
theorem out_ok2(s:St8)(K:Vec UInt32 64):iter (zoC (s.1,s.2.1,s.2.2.1,s.2.2.2.1,s.2.2.2.2.1,s.2.2.2.2.2.1,s.2.2.2.2.2.2.1,s.2.2.2.2.2.2.2,K)) (([]:Bs),0)=some (outF s):=by
 rw[<-ysW];refine zeV (fun k=>(outN s k,(k:Int))) 8 (by decide) _ (fun k hk=>?_) ?_
 ·unfold zoC;have e:idx ([s.1,s.2.1,s.2.2.1,s.2.2.2.1,s.2.2.2.2.1,s.2.2.2.2.2.1,s.2.2.2.2.2.2.1,s.2.2.2.2.2.2.2]:List UInt32) (k:Int)=some (at8 s k):=by rcases(by omega:k=0∨k=1∨k=2∨k=3∨k=4∨k=5∨k=6∨k=7)with rfl|rfl|rfl|rfl|rfl|rfl|rfl|rfl<;>rfl
  rw[ziR (by omega)];simp only[];rw[e,zaB,show(4:Int)=((4:Nat):Int)from rfl,xcR (by decide) (by rw[ycZ];omega),zaB,w64s k (by omega)];rfl
 ·unfold zoC;rw[zjF (by omega)]
theorem ycP{l:Bs}(h:l.length<=68719470000):zhY l=some (shaF l):=by unfold zhY;rw[zhD (by rw[aN,aV];omega),zaB,pad_ok h,zaB,zaB,show(8:Int)=((8:Nat):Int)from rfl,xcR (by decide) (by have:=ykM l;omega),zaB,keys_ok,zaB];rw[show yaP l++beF (i64 (((8:Nat):Int)*(((i64 ((l.length:Int)))).toNat:Int))) 8=msgF l from rfl,yzU keysF (xaN l) (by have:=msgF_le l;omega),zaB,zaB,out_ok2];rfl
theorem mul1(c:UInt8):zlE (i64 ((([c]:Bs)).length:Int)) (i64 64)=some ((0:UInt64),(64:UInt64)):=by rw[show((([c]:Bs)).length:Int)=1 from rfl];decide +kernel
theorem ywX(c:UInt8){n:Nat}(h0:0<n)(h:n<=32){r:Bs}(hr:r.length=64-n):zgQ ((0:UInt64),(64:UInt64)) 64 ((n:Int),aO n c++r)=some (.inl (((2*n:Nat):Int),aO (2*n) c++r.drop n)):=by
 unfold zgQ;have e64:w64 (((64:UInt64)).toNat:Int)=64:=by decide
 have hl:(aO n c++r).length=64:=by simp[hr];omega
 simp only[e64];rw[ziR (by omega),yiR (by omega),zaB,ziR (by omega),zxB (by omega),zaB];have h1:(aO n c++r).drop n=r:=by rw[List.drop_left' (by simp)]
 have h2:(aO n c++r).take n=aO n c:=by rw[List.take_left' (by simp)]
 rw[h2,hl,show(((n:Int)).toNat)=n from rfl,eU];have h4:min n (64-n)=n:=by omega
 rw[h4,zpV (by omega) (by omega)];have h5:putB (aO n c++r) n (aO n c)=aO (2*n) c++r.drop n:=by unfold putB;rw[h2,hl,eU,h4,dJ (by simp;omega),List.drop_append,eU,eR (by simp),cF,<-bG,List.replicate_append_replicate];congr 2<;>omega
 rw[h5];congr 4;omega
theorem xbK(c:UInt8):zhE [c] 64=some (aO 64 c):=by
 unfold zhE;have e64:w64 (((64:UInt64)).toNat:Int)=64:=by decide
 rw[zpA (by rfl),zjF (by decide),mul1,zaB];simp only[e64];rw[zpA (by decide),zpA (by rfl),zjF (by decide),zaB,zkX (by decide),zaB];refine ymT fun jk hj=>?_;have hj':jk.length=64:=hj;have h0:putB jk 0 [c]=aO 1 c++jk.drop 1:=by unfold putB;rw[hj'];rfl
 have key:iter (zgQ ((0:UInt64),(64:UInt64)) 64) (((1:Nat):Int),aO 1 c++jk.drop 1)=some (aO 64 c):=by
  refine zeV (fun k=>(((2^k:Nat):Int),aO (2^k) c++jk.drop (2^k))) 6 (by decide) _ (fun k hk=>?_) ?_
  ·have hp:2^k<=32:=by rcases(by omega:k=0∨k=1∨k=2∨k=3∨k=4∨k=5)with rfl|rfl|rfl|rfl|rfl|rfl<;>decide
   rw[ywX c (cN (by simp)) hp (by rw[bO,hj']),eC,<-Nat.two_mul,Nat.pow_succ,Nat.mul_comm]
  ·unfold zgQ;simp only[e64];rw[zjF (by decide),eR (by rw[hj'];decide),List.append_nil]
 rw[show(((min (([c]:Bs)).length (jk.length-0):Nat)):Int)=((1:Nat):Int) by rw[hj'];rfl,h0,key];rfl
def znQ(c:UInt8)(key:Bs):Nat->Bs
 |0=>aO 64 c|k+1=>(znQ c key k).set k ((znQ c key k).getD k 0^^^key.getD k 0)
theorem zpG(c:UInt8)(key:Bs):∀k,(znQ c key k).length=64
 |0=>by simp[znQ]
 |k+1=>by rw[znQ,List.length_set,zpG c key k]
theorem idxD{l:Bs}{k:Nat}(h:k<l.length):idx l (k:Int)=some (l.getD k 0):=by rw[zuW rfl h,cX,aI h];rfl
theorem yjO{l:Bs}{k:Nat}{u:UInt8}(h:k<l.length):setL l (k:Int) u=some (l.set k u):=by unfold setL;rw[show(decide (0<=(k:Int))&&decide ((k:Int)<(l.length:Int)))=true by simp;exact h];rfl
theorem xeD{key:Bs}(h:key.length<=64):iter (znH key) (0,aO 64 (92:UInt8),aO 64 (54:UInt8))=some (znQ 92 key key.length,znQ 54 key key.length):=by
 refine zeV (fun k=>((k:Int),znQ 92 key k,znQ 54 key k)) key.length (by omega) _ (fun k hk=>?_) ?_
 ·unfold znH;rw[ziR (by omega)];simp only[];have hi:k<(znQ 54 key k).length:=by rw[zpG];omega
  have ho:k<(znQ 92 key k).length:=by rw[zpG];omega
  rw[idxD hi,zaB,idxD hk,zaB,zaB,yjO hi,zaB,idxD ho,zaB,zaB,zaB,yjO ho,zaB,w64s k (by omega)];rfl
 ·unfold znH;rw[zjF (by omega)]
def keyF(key:Bs):Bs:=bif decide (64<key.length)then shaF key else key
def macF(key s:Bs):Bs:=shaF (znQ 92 (keyF key) (keyF key).length++shaF (znQ 54 (keyF key) (keyF key).length++s))
theorem ywS(key:Bs):(keyF key).length<=64:=by
 unfold keyF;by_cases h:64<key.length
 ·rw[ziR h,zvV];decide
 ·rw[zjF h];omega
theorem zdB(key s:Bs):(macF key s).length=32:=zvV _
theorem zrW{key s:Bs}(hk:key.length<=68719470000)(hs:s.length<=68719460000):zdV key s=some (macF key s):=by
 unfold zdV
 have e:(bif decide ((64:Int)<((key).length:Int))then(aA (zhY key) fun y1=>some (y1))else(some (key)))=some (keyF key):=by
  unfold keyF;by_cases h:64<key.length
  ·rw[ziR (by omega),ziR h,ycP hk];rfl
  ·rw[zjF (by omega),zjF h]
 have l2:=zpG 92 (keyF key) (keyF key).length;have l1:=zpG 54 (keyF key) (keyF key).length;have hi:(znQ 54 (keyF key) (keyF key).length++s).length<=68719470000:=by rw[aE,l1];omega
 have ho:(znQ 92 (keyF key) (keyF key).length++shaF (znQ 54 (keyF key) (keyF key).length++s)).length<=68719470000:=by rw[aE,l2,zvV];omega
 rw[e,zaB,xbK,zaB,xbK,zaB,xeD (ywS key),zaB,zaB,zhD (by rw[<-aE];show(znQ 54 (keyF key) (keyF key).length++s).length<=_;omega),zaB,ycP hi,zaB,zhD (by rw[<-aE];show(znQ 92 (keyF key) (keyF key).length++shaF (znQ 54 (keyF key) (keyF key).length++s)).length<=_;omega),zaB,ycP ho];rfl
theorem zpC{l:Bs}{b:UInt8}(h:l.length<68719476736):zdX l b=some (l++[b]):=by
 have h':l.length+[b].length<=68719476736:=by simp only[aN,aV];omega
 simp only[zdX,zhP,zaB,zhD h']
section
variable {σ β:Type}{body:σ->Option (σ⊕β)}
theorem xbQ{s s1:σ}{b:β}(h:body s=some (.inl s1))(h1:body s1=some (.inr b)):iter body s=some b:=by show zpU body (1099511627774+1+1) s=_;rw[ziX h,zkR h1]
theorem iter_2{s s1 s2:σ}{b:β}(h:body s=some (.inl s1))(h1:body s1=some (.inl s2))(h2:body s2=some (.inr b)):iter body s=some b:=by show zpU body (1099511627773+1+1+1) s=_;rw[ziX h,ziX h1,zkR h2]
end
abbrev alA:Bs:=[65,66,67,68,69,70,71,72,73,74,75,76,77,78,79,80,81,82,83,84,85,86,87,88,89,90,97,98,99,100,101,102,103,104,105,106,107,108,109,110,111,112,113,114,115,116,117,118,119,120,121,122,48,49,50,51,52,53,54,55,56,57,45,95]
def ch(n:Nat):UInt8:=alA.getD n 0
def enc:Nat->Nat->Bs->Bs
 |0,_,[]=>[]|1,a,[]=>[ch (a*16)]|_+2,a,[]=>[ch (a*4)]|0,_,c::l=>ch (c.toNat/4)::enc 1 (c.toNat%4) l|1,a,c::l=>ch (a*16+c.toNat/16)::enc 2 (c.toNat%16) l|_+2,a,c::l=>ch (a*4+c.toNat/64)::ch (c.toNat%64)::enc 0 0 l
def b64(x:Bs):Bs:=enc 0 0 x
theorem ybS:∀(x:Bs) (m a:Nat),m<=2->(enc m a x).length=(4*x.length+m+2)/3
 |[],0,a,_=>rfl|[],1,a,_=>rfl|[],2,a,_=>rfl|c::l,0,a,_=>by simp only[enc,aN,ybS l 1 _ (by omega)];omega
 |c::l,1,a,_=>by simp only[enc,aN,ybS l 2 _ (by omega)];omega
 |c::l,2,a,_=>by simp only[enc,aN,ybS l 0 _ (by omega)];omega
 |[],m+3,_,h=>by omega
 |_::_,m+3,_,h=>by omega
abbrev vv(a:Int)(c:UInt8):Int:=bits .or .i64 (shlI .i64 a 8) ((c.toNat:Nat):Int)
theorem own0(c:UInt8):idx alA (bits .and .i64 (shrI .i64 (vv 0 c) 2) 63)=some (ch (c.toNat/4))/\bits .and .i64 (vv 0 c) (w64 (shlI .i64 1 2-1))=((c.toNat%4:Nat):Int):=by have:=ycJ (fun c=>decide (idx alA (bits .and .i64 (shrI .i64 (vv 0 c) 2) 63)=some (ch (c.toNat/4))/\bits .and .i64 (vv 0 c) (w64 (shlI .i64 1 2-1))=((c.toNat%4:Nat):Int))) (by decide +kernel) c;exact zC this
theorem own1(a:Nat)(h:a<4)(c:UInt8):idx alA (bits .and .i64 (shrI .i64 (vv (a:Int) c) 4) 63)=some (ch (a*16+c.toNat/16))/\bits .and .i64 (vv (a:Int) c) (w64 (shlI .i64 1 4-1))=((c.toNat%16:Nat):Int):=by have:=ycJ (fun c=>(bR 4).all fun a=>decide (idx alA (bits .and .i64 (shrI .i64 (vv (a:Int) c) 4) 63)=some (ch (a*16+c.toNat/16))/\bits .and .i64 (vv (a:Int) c) (w64 (shlI .i64 1 4-1))=((c.toNat%16:Nat):Int))) (by decide +kernel) c;exact zC (bH.1 this a (bU.2 h))
theorem own2(a:Nat)(h:a<16)(c:UInt8):idx alA (bits .and .i64 (shrI .i64 (vv (a:Int) c) 6) 63)=some (ch (a*4+c.toNat/64))/\idx alA (bits .and .i64 (shrI .i64 (vv (a:Int) c) 0) 63)=some (ch (c.toNat%64))/\bits .and .i64 (vv (a:Int) c) (w64 (shlI .i64 1 0-1))=0:=by have:=ycJ (fun c=>(bR 16).all fun a=>decide (idx alA (bits .and .i64 (shrI .i64 (vv (a:Int) c) 6) 63)=some (ch (a*4+c.toNat/64))/\idx alA (bits .and .i64 (shrI .i64 (vv (a:Int) c) 0) 63)=some (ch (c.toNat%64))/\bits .and .i64 (vv (a:Int) c) (w64 (shlI .i64 1 0-1))=0)) (by decide +kernel) c;exact zC (bH.1 this a (bU.2 h))
theorem ybY(A B C:Int)(O out:Bs)(c e:UInt8)(t u:Int)(ht:6<=t)(htu:w64 (t-6)=u)(hu:0<=u)(he:idx alA (bits .and .i64 (shrI .i64 (vv A c) u) 63)=some e)(hl:out.length<68719476736):
  zdE (A,B,C,O) c (t,out)=some (.inl (u,out++[e])):=by
 unfold zdE
 dsimp only
 rw[ziR ht,htu,zkX (by simpa using hu),zaB,he,zaB,zpC hl,zaB]
theorem ypR(A B C:Int)(O out:Bs)(c:UInt8)(t:Int)(ht:¬6<=t):zdE (A,B,C,O) c (t,out)=some (.inr (t,out)):=by
 unfold zdE
 dsimp only
 rw[zjF ht]
theorem last1(a:Nat)(h:a<4):idx alA (bits .and .i64 (shlI .i64 (a:Int) 4) 63)=some (ch (a*16)):=by
 have:(bR 4).all (fun a=>decide (idx alA (bits .and .i64 (shlI .i64 (a:Int) 4) 63)=some (ch (a*16))))=true:=by decide +kernel
 exact zC (bH.1 this a (bU.2 h))
theorem last2(a:Nat)(h:a<16):idx alA (bits .and .i64 (shlI .i64 (a:Int) 2) 63)=some (ch (a*4)):=by
 have:(bR 16).all (fun a=>decide (idx alA (bits .and .i64 (shlI .i64 (a:Int) 2) 63)=some (ch (a*4))))=true:=by decide +kernel
 exact zC (bH.1 this a (bU.2 h))
theorem yaE(x:Bs)(hx:x.length<=4194304):zjH x=some (b64 x):=by
 have key:∃r,iter (ziK x) (0,0,0,[])=some r/\∃m a:Nat,m<=2/\a<4^m/\r.1=(a:Int)/\r.2.1=((2*m:Nat):Int)/\b64 x=r.2.2++enc m a []/\r.2.2.length<=2*x.length:=by
  refine yxO (fun s=>∃k m a:Nat,m<=2/\a<4^m/\k<=x.length/\s.1=(a:Int)/\s.2.1=((2*m:Nat):Int)/\s.2.2.1=(k:Int)/\b64 x=s.2.2.2++enc m a (x.drop k)/\s.2.2.2.length<=2*k) (fun s=>x.length-s.2.2.1.toNat) _ (0,0,0,[]) ⟨0,0,0,by omega,by decide,by omega,rfl,rfl,rfl,by simp[b64],by simp⟩ (by show x.length-0<_;omega) ?_;rintro⟨A,B,C,out⟩ ⟨k,m,a,hm,ha,hk,e1,e2,e3,hI,hL⟩
  dsimp only at e1 e2 e3 hI hL
  subst e1 e2 e3;by_cases h:k<x.length
  ·left;have ei:idx x (k:Int)=some x[k]:=zuW rfl h;rw[drop_at h]at hI;unfold ziK
   dsimp only
   rw[ziR (show(k:Int)<(x.length:Int) by omega),ei,zaB,zpV (x:=(k:Int)+1) (by omega) (by omega)]
   match m,hm,ha with
   |0,_,ha=>
    obtain rfl:a=0:=by simpa using ha
    have hr:=own0 x[k];have e:w64 (((2*0:Nat):Int)+8)=8:=by decide
    have hi:iter (zdE (((0:Nat):Int),((2*0:Nat):Int),(k:Int),out) x[k]) (8,out)=some (2,out++[ch (x[k].toNat/4)]):=
     xbQ (ybY _ _ _ _ _ _ _ 8 2 (by decide) (by decide) (by decide) hr.1 (by omega)) (ypR _ _ _ _ _ _ 2 (by decide))
    rw[e,hi];simp only[zaB];refine⟨(((x[k].toNat%4:Nat):Int),2,(k:Int)+1,out++[ch (x[k].toNat/4)]),?_,⟨k+1,1,x[k].toNat%4,by omega,by omega,by omega,rfl,rfl,rfl,?_,?_⟩,?_⟩
    ·rw[zkX (show decide ((0:Int)<=2)=true by decide),zaB];have:=hr.2;rw[<-this];rfl
    ·rw[hI];simp[enc]
    ·simp only[aE,aN,aV];omega
    ·show x.length-((k:Int)+1).toNat<x.length-((k:Int)).toNat;omega
   |1,_,ha=>
    have ha:a<4:=by simpa using ha
    have hr:=own1 a ha x[k];have e:w64 (((2*1:Nat):Int)+8)=10:=by decide
    have hi:iter (zdE ((a:Int),((2*1:Nat):Int),(k:Int),out) x[k]) (10,out)=some (4,out++[ch (a*16+x[k].toNat/16)]):=
     xbQ (ybY _ _ _ _ _ _ _ 10 4 (by decide) (by decide) (by decide) hr.1 (by omega)) (ypR _ _ _ _ _ _ 4 (by decide))
    rw[e,hi];simp only[zaB];refine⟨(((x[k].toNat%16:Nat):Int),4,(k:Int)+1,out++[ch (a*16+x[k].toNat/16)]),?_,⟨k+1,2,x[k].toNat%16,by omega,by omega,by omega,rfl,rfl,rfl,?_,?_⟩,?_⟩
    ·rw[zkX (show decide ((0:Int)<=4)=true by decide),zaB];have:=hr.2;rw[<-this];rfl
    ·rw[hI];simp[enc]
    ·simp only[aE,aN,aV];omega
    ·show x.length-((k:Int)+1).toNat<x.length-((k:Int)).toNat;omega
   |2,_,ha=>
    have ha:a<16:=by simpa using ha
    have hr:=own2 a ha x[k];have e:w64 (((2*2:Nat):Int)+8)=12:=by decide
    have hi:iter (zdE ((a:Int),((2*2:Nat):Int),(k:Int),out) x[k]) (12,out)=some (0,out++[ch (a*4+x[k].toNat/64)]++[ch (x[k].toNat%64)]):=
     iter_2 (ybY _ _ _ _ _ _ _ 12 6 (by decide) (by decide) (by decide) hr.1 (by omega)) (ybY _ _ _ _ _ _ _ 6 0 (by decide) (by decide) (by decide) hr.2.1 (by simp only[aE,aN,aV];omega)) (ypR _ _ _ _ _ _ 0 (by decide))
    rw[e,hi];simp only[zaB];refine⟨(0,0,(k:Int)+1,out++[ch (a*4+x[k].toNat/64)]++[ch (x[k].toNat%64)]),?_,⟨k+1,0,0,by omega,by decide,by omega,rfl,rfl,rfl,?_,?_⟩,?_⟩
    ·rw[zkX (show decide ((0:Int)<=0)=true by decide),zaB];have:=hr.2.2;simp only[zaB];rw[show bits .and .i64 (bits .or .i64 (shlI .i64 (a:Int) 8) ((x[k].toNat:Nat):Int)) (w64 (shlI .i64 1 0-1))=0 from this]
    ·rw[hI];simp[enc]
    ·simp only[aE,aN,aV];omega
    ·show x.length-((k:Int)+1).toNat<x.length-((k:Int)).toNat;omega
  ·right;have:k=x.length:=by omega
   subst this;refine⟨((a:Int),((2*m:Nat):Int),out),?_,m,a,hm,ha,rfl,rfl,?_,hL⟩
   ·unfold ziK
    dsimp only
    rw[zjF (by omega)]
   ·rw[hI,List.drop_length]
 obtain⟨⟨A,B,out⟩,hr,m,a,hm,ha,e1,e2,hI,hL⟩:=key
 dsimp only at e1 e2 hI hL
 subst e1 e2;rw[zjH,hr];simp only[zaB]
 match m,hm,ha with
 |0,_,ha=>rw[zjF (by decide),zaB,zkX (by rw[zD];omega),zaB,hI];simp[enc]|1,_,ha=>
  have ha:a<4:=by simpa using ha
  have e:w64 ((6:Int)-((2*1:Nat):Int))=4:=by decide
  rw[ziR (by decide),e,zkX (by decide),zaB,last1 a ha,zaB,zpC (by omega),zaB,zaB,zkX (by rw[zD,aE];simp only[aN,aV];omega),zaB,hI];simp[enc]
 |2,_,ha=>
  have ha:a<16:=by simpa using ha
  have e:w64 ((6:Int)-((2*2:Nat):Int))=2:=by decide
  rw[ziR (by decide),e,zkX (by decide),zaB,last2 a ha,zaB,zpC (by omega),zaB,zaB,zkX (by rw[zD,aE];simp only[aN,aV];omega),zaB,hI];simp[enc]
def encR:Nat->Nat->Bs->Bs
 |3,a,l=>ch a::enc 0 0 l|m,a,l=>enc m a l
theorem or63{a b:Nat}(ha:a<2^63)(hb:b<2^63):bits .or .i64 (a:Int) (b:Int)=((a|||b:Nat):Int):=by
 have h1:a<2^IntKind.i64.bits:=by show a<2^64;omega
 have h2:b<2^IntKind.i64.bits:=by show b<2^64;omega
 simp only[bits,BitVec.toNat_or,zmM .i64 a h1,zmM .i64 b h2];have:=fS ha hb;exact wr64 (by omega) (by omega)
theorem xor63{a b:Nat}(ha:a<2^63)(hb:b<2^63):bits .xor .i64 (a:Int) (b:Int)=((a^^^b:Nat):Int):=by
 have h1:a<2^IntKind.i64.bits:=by show a<2^64;omega
 have h2:b<2^IntKind.i64.bits:=by show b<2^64;omega
 simp only[bits,BitVec.toNat_xor,zmM .i64 a h1,zmM .i64 b h2];have:=iG ha hb;exact wr64 (by omega) (by omega)
def zvD(x y:Bs):Nat->Nat
 |0=>x.length^^^y.length|k+1=>zvD x y k|||(x.getD k 0^^^y.getD k 0).toNat
theorem ygF{x y:Bs}(hx:x.length<2^63)(hy:y.length<2^63):∀k,zvD x y k<2^63
 |0=>iG hx hy|k+1=>fS (ygF hx hy k) (bE (UInt8.toNat_lt _) (by decide))
theorem orz0{a b:Nat}:a|||b=0↔a=0/\b=0:=by
 constructor
 ·intro h;have h1:a<=a|||b:=Nat.left_le_or;have h2:b<=a|||b:=Nat.right_le_or;omega
 ·rintro⟨rfl,rfl⟩;rfl
theorem xorz08{a b:UInt8}:(a^^^b).toNat=0↔a=b:=by
 rw[UInt8.toNat_xor];constructor
 ·intro h;apply UInt8.toNat_inj.1;have:=congrArg (· ^^^ b.toNat) h;simpa[Nat.xor_assoc]using this
 ·rintro rfl;simp
theorem zxW{x y:Bs}:∀k,zvD x y k=0↔x.length=y.length/\∀j,j<k->x.getD j 0=y.getD j 0
 |0=>by
  simp only[zvD,Nat.not_lt_zero,false_imp_iff,implies_true,and_true];constructor
  ·intro h;have:=congrArg (· ^^^ y.length) h;simpa[Nat.xor_assoc]using this
  ·intro h;rw[h];simp
 |k+1=>by
  rw[zvD,orz0,zxW k,xorz08];constructor
  ·rintro⟨⟨h1,h2⟩,h3⟩
   exact⟨h1,fun j hj=>by
    rcases(by omega:j<k∨j=k)with h|rfl
    ·exact h2 j h
    ·exact h3⟩
  ·rintro⟨h1,h2⟩;exact⟨⟨h1,fun j hj=>h2 j (by omega)⟩,h2 k (by omega)⟩
theorem ykY{x y:Bs}(hx:x.length<=68719476736)(hy:y.length<=68719476736):znN x y=some (x==y):=by
 have hx2:x.length<2^63:=by omega
 have hy2:y.length<2^63:=by omega
 have key:iter (zlP x y) ((((x.length^^^y.length:Nat)):Int),0)=some ((zvD x y x.length:Nat):Int):=by
  refine zeV (fun k=>(((zvD x y k:Nat):Int),(k:Int))) x.length (by omega) _ (fun k hk=>?_) ?_
  ·unfold zlP;rw[ziR (by omega)];simp only[]
   have e:(bif decide ((k:Int)<((y).length:Int))then(aA (idx y (k:Int)) fun y1=>some (y1))else(some ((0:UInt8))))=some (y.getD k 0):=by
    by_cases h:k<y.length
    ·rw[ziR (by omega),idxD h];rfl
    ·rw[zjF (by omega),cX,bT (by omega)];rfl
   rw[e,zaB,idxD hk,zaB,or63 (ygF hx2 hy2 k) (bE (UInt8.toNat_lt _) (by decide)),w64s k (by omega)];rfl
  ·unfold zlP;rw[zjF (by omega)]
 unfold znN;rw[xor63 hx2 hy2,key,zaB,zaB];congr 1;have hz:=zxW (x:=x) (y:=y) x.length;by_cases h:x=y
 ·subst h;rw[hz.2 ⟨rfl,fun _ _=>rfl⟩];simp
 ·rw[beq_false_of_ne h]
  have:¬zvD x y x.length=0:=fun e=>h (by
   obtain⟨h1,h2⟩:=hz.1 e;apply List.ext_getElem h1;intro i hi hi';have:=h2 i hi
   simpa[cX,aI hi,aI hi']using this)
  rw[beq_eq_false_iff_ne];omega
abbrev Ky:Type:=Bs×Bs×Bs×Qw×Onc×Qp
def kidF(s:Bs):Bs:=b64 ((macF [107,105,100] s).take 9)
def mkF(s:Bs):Bs:=macF [109,97,99] s
def dF(s:Bs):Nat:=bval (macF [107,101,121] s)%modN 1
def prF(s:Bs):W4:=bif dF s==0 then tv 1 else tv (dF s)
def keyOf(s:Bs):Ky:=(s,kidF s,mkF s,prF s,onc0,((0,0,0,0),(0,0,0,0),false))
theorem yxG(s:Bs):(kidF s).length=12:=by rw[kidF,b64,ybS _ 0 _ (by decide),bZ,zdB];decide
theorem ytW{A:Nat}(h:A<zaC):(tv A==((0:UInt64),(0:UInt64),(0:UInt64),(0:UInt64)))=(A==0):=by rw[show((0:UInt64),(0:UInt64),(0:UInt64),(0:UInt64))=tv 0 from rfl,xbH,zpJ h,zpJ zbY]
theorem dF_lt(s:Bs):dF s<zaC:=bE (Nat.mod_lt _ (zgU 1)) (Nat.le_of_lt (zaV 1).2)
theorem yrE{s:Bs}(h:s.length<=68719460000):zkW s=some (some (keyOf s)):=by
 have hk:∀k:Bs,k.length<=68719470000->zdV k s=some (macF k s):=fun k hk=>zrW hk h;unfold zkW;have hr:zdC 1 (macF [107,101,121] s)=some (tv (dF s)):=by unfold zdC;rw[zkX (zA (by rw[zdB];decide))];rfl
 rw[hk _ (by decide),zaB,hr,zaB];have e:(aA (zbQ) fun y3=>bif(((tv (dF s)):Qw)==(y3:Qw))then(some (((1:UInt64),(0:UInt64),(0:UInt64),(0:UInt64))))else(some (((tv (dF s)).1,(tv (dF s)).2.1,(tv (dF s)).2.2.1,(tv (dF s)).2.2.2))))=some (prF s):=by unfold zbQ;rw[zaB,ytW (dF_lt s),prF];cases dF s==0<;>rfl
 rw[e,zaB,hk _ (by decide),zaB,show(9:Int)=((9:Nat):Int)from rfl,zxB (by rw[zdB];decide),zaB,yaE _ (by rw[bZ,zdB];decide),zaB,hk _ (by decide),zaB];rfl
def zjP(L:List Bs):List (Option Ky):=L.map fun s=>some (keyOf s)
theorem ziM(L:List Bs):(zjP L).length=L.length:=by simp[zjP]
theorem zvU{L:List Bs}{k:Nat}(h:k<L.length):idx (zjP L) (k:Int)=some (some (keyOf L[k])):=by rw[zuW rfl (by rw[ziM];exact h)];simp[zjP]
theorem ymS{s:Bs}(h:s.length<=68719460000):zjI s=some (zjP [s]):=by unfold zjI;rw[yrE h];rfl
def plF(L:List Bs)(kid:Bs):Nat:=L.findIdx fun s=>kidF s==kid
def zjO(L:List Bs)(kid:Bs):Option Bs:=L[plF L kid]?
theorem find_ok{L:List Bs}(hL:L.length<1000000)(kid:Bs):zfQ (some (zjP L)) kid=some ((zjO L kid).map keyOf):=by
 have hn:plF L kid<=L.length:=List.findIdx_le_length
 have key:iter (zcI kid (zjP L)) 0=some (match zjO L kid with|some s=>.inl (some (keyOf s))|none=>.inr ()):=by
  refine zeV (fun k=>(k:Int)) (plF L kid) (by omega) _ (fun k hk=>?_) ?_
  ·unfold zcI;have hk2:k<L.length:=by omega
   rw[ziR (by rw[ziM];omega),zvU hk2,zaB,zaB,zpA (by simpa[keyOf]using List.not_of_lt_findIdx hk),w64s k (by omega)]
  ·unfold zcI;by_cases h:plF L kid<L.length
   ·rw[ziR (by rw[ziM];omega),zvU h,zaB,zaB,zoI (show((keyOf (L[plF L kid]'h)).2.1==kid)=true from List.findIdx_getElem (w:=h)),zjO,aI h]
   ·rw[zjF (by rw[ziM];omega),zjO,bT (by omega)]
 unfold zfQ;rw[zaB,key,zaB];cases zjO L kid<;>rfl
theorem yrF{L:List Bs}{s:Bs}(hL:L.length<1000000):zfX (some (zjP (L++[s])))=some (some (keyOf s)):=by
 unfold zfX;have hl:((L++[s]).length:Nat)=L.length+1:=by simp
 rw[zaB,zaB,ziM,hl,zpV (by omega) (by omega),show(((L.length+1:Nat)):Int)-1=((L.length:Nat):Int) by omega,zvU (by omega),zaB];simp
theorem yvJ{L:List Bs}{s:Bs}(hL:L.length<1000000)(h:s.length<=68719460000):zdN (zjP L) s =
  some (bif(zjO L (kidF s)).isSome then(80,zjP L)else bif L.length==8 then(82,zjP L)else(0,zjP (L++[s]))):=by
 unfold zdN;rw[yrE h,zaB,zaB,show(keyOf s).2.1=kidF s from rfl,find_ok hL,zaB];cases e:zjO L (kidF s) with
 |some q=>rfl|none=>
  simp only[Option.map_none,Option.isNone_none,Bool.not_true,zF,Option.isSome_none];rw[ziM];by_cases h8:L.length=8
  ·rw[zoI (by simp[h8]),zoI (by simp[h8])]
  ·rw[zpA (by rw[beq_eq_false_iff_ne];omega),zpA (by rw[beq_eq_false_iff_ne];exact h8),zhD (by rw[ziM,aN,aV];omega),zaB];simp[zjP]
theorem xdS{L:List Bs}(hL:L.length<1000000):zfS (some (zjP L))=some (L.map kidF):=by
 have key:iter (zcH (zjP L)) (([]:List Bs),0)=some (L.map kidF):=by
  refine zeV (fun k=>((L.take k).map kidF,(k:Int))) L.length (by omega) _ (fun k hk=>?_) ?_
  ·unfold zcH;rw[ziR (by rw[ziM];omega)];simp only[];rw[zvU hk,zaB,zaB,zhD (by simp;omega),zaB,w64s k (by omega),ztJ hk,List.map_append];rfl
  ·unfold zcH;rw[zjF (by rw[ziM];omega),List.take_length]
 unfold zfS;rw[zaB,key];rfl
theorem rmac_ok{L:List Bs}{s m:Bs}(hL:L.length<1000000)(hm:m.length<=68719460000):zgH (some (zjP (L++[s]))) m=some (kidF s,macF (mkF s) m):=by unfold zgH;rw[yrF hL,zaB,zaB,zaB,show(keyOf s).2.2.1=mkF s from rfl,zrW (by rw[mkF,zdB];decide) hm];rfl
theorem ylK{L:List Bs}{kid m c:Bs}(hL:L.length<1000000)(hm:m.length<=68719460000)(hc:c.length<=68719476736):
  zdA (some (zjP L)) kid m c=some (match zjO L kid with|some s=>macF (mkF s) m==c|none=>false):=by
 unfold zdA;rw[find_ok hL,zaB];cases e:zjO L kid with
 |none=>rfl|some s=>simp only[Option.map_some,Option.isNone_some,Bool.not_false,zE,zaB];rw[show(keyOf s).2.2.1=mkF s from rfl,zrW (by rw[mkF,zdB];decide) hm,zaB,ykY (by rw[zdB];decide) hc];rfl
abbrev G0:Pw:=ptW (GX,GY,false)
theorem xdO:invV 0 1=1:=by unfold invV;rw[Nat.one_pow];rfl
theorem pub1:zgY ((1:UInt64),(0:UInt64),(0:UInt64),(0:UInt64))=some (G0,0):=by
 have e1:zfH ((1:UInt64),(0:UInt64),(0:UInt64),(0:UInt64))=some true:=zC (by kernel_rfl);have e2:cmul (nv ((1:UInt64),(0:UInt64),(0:UInt64),(0:UInt64))) (apT G0)=(GX,GY,false):=by rw[show nv ((1:UInt64),(0:UInt64),(0:UInt64),(0:UInt64))=1 from zC (by kernel_rfl),show apT G0=(GX,GY,false)from zC (by kernel_rfl)];unfold cmul;rw[show onT (GX,GY,false)=true by kernel_rfl,zoI rfl,ypW (by decide),show 1/2=0 from rfl,yjT,jtw_0];rw[show jad (0,0,0) (jof GX GY false)=(GX,GY,1)from rfl];unfold jend;rw[zG (by decide),xdO];exact zC (by kernel_rfl)
 unfold zgY;rw[e1,zaB];unfold zaZ zhX zhW;rw[zaB,zaB,e2];rfl
theorem pub0:(zgY ((0:UInt64),(0:UInt64),(0:UInt64),(0:UInt64))).map (·.2)=some 80:=zC (by kernel_rfl)
theorem sgnN:zgK (tv (modN 1)) ([]:Bs)=some ([],80):=zC (by kernel_rfl)
theorem yqH:(kidF [97]==kidF [98])=false:=by kernel_rfl
theorem kid_no(s:Bs):(kidF s==([]:Bs))=false:=by rw[beq_eq_false_iff_ne];intro h;have:=yxG s;rw[h]at this;simp at this
theorem xaB(s:Bs)(L:List Bs):zjO (s::L) (kidF s)=some s:=by
 have:plF (s::L) (kidF s)=0:=by simp[plF,fW]
 rw[zjO,this];rfl
theorem yyK:ztQ=some true:=by
 unfold ztQ;obtain⟨y2,h2,h80⟩:=Option.map_eq_some_iff.1 pub0;have t1:zdN (zjP [[97]]) ([97]:Bs)=some (80,zjP [[97]]):=by rw[yvJ (by decide) (by decide),xaB];rfl
 have t2:zdN (zjP [[97]]) ([98]:Bs)=some (0,zjP [[97],[98]]):=by
  have:zjO [[97]] (kidF [98])=none:=by
   have:plF [[97]] (kidF [98])=1:=by simp only[plF,fW,yqH,iR];rfl
   rw[zjO,this];rfl
  rw[yvJ (by decide) (by decide),this];rfl
 have k:zfS (some (zjP [[97],[98]]))=some [kidF [97],kidF [98]]:=xdS (by decide);have m:zgH (some (zjP [[97],[98]])) ([115]:Bs)=some (kidF [98],macF (mkF [98]) [115]):=rmac_ok (L:=[[97]]) (by decide) (by decide);have f1:zjO [[97],[98]] (kidF [98])=some [98]:=by
  have:plF [[97],[98]] (kidF [98])=1:=by simp only[plF,fW,yqH,BEq.rfl,iR];rfl
  rw[zjO,this];rfl
 have f2:zjO [[97],[98]] []=none:=by
  have:plF [[97],[98]] []=2:=by simp only[plF,fW,kid_no,iR];rfl
  rw[zjO,this];rfl
 have v1:zdA (some (zjP [[97],[98]])) (kidF [98]) ([115]:Bs) (macF (mkF [98]) [115])=some true:=by rw[ylK (by decide) (by decide) (by rw[zdB];decide),f1];simp only[BEq.rfl]
 have v2:zdA (some (zjP [[97],[98]])) ([]:Bs) ([115]:Bs) (macF (mkF [98]) [115])=some false:=by rw[ylK (by decide) (by decide) (by rw[zdB];decide),f2]
 rw[pub1,zaB,h2,zaB,show zkQ 1=some (tv (modN 1))from rfl,zaB,sgnN,zaB,ymS (by decide),zaB,t1,zaB];simp only[h80,show((80:Int) != 80)=false from rfl,zF];rw[t2,zaB,zaB];simp only[show((0:Int) != 0)=false from rfl,zF];rw[k,zaB,zaB];simp only[show(((([kidF [97],kidF [98]]:List Bs).length:Int)) != 2)=false from rfl,zF];rw[m,zaB,show zhX=some G0 from rfl,zaB];simp only[BEq.rfl,zE];rw[v1,zaB,zoI rfl,v2,zaB];rfl
theorem HP.ofE{W w:World}(_hx:Ext W w):HP W W []:=HP.of (Ext.refl W)
abbrev GG:Ap:=(GX,GY,false)
theorem ztT:AL GG:=⟨zC (by kernel_rfl),zC (by kernel_rfl)⟩
theorem zjW(l:Bs):AL (cofV l):=by
 unfold cofV;cases l==[0]
 ·cases cofB l
  ·exact AL_0 _
  ·exact⟨zpS _ _,zpS _ _⟩
 ·exact AL_0 _
theorem xbA:onT GG=true:=by kernel_rfl
def Rep(t:Tr):Pt->Prop
 |none=>cl t.2.2=0|some (x,y)=>cl t.2.2≠0/\cl t.1=x*(cl t.2.2*cl t.2.2)/\cl t.2.1=y*(cl t.2.2*cl t.2.2*cl t.2.2)
def ZL(t:Tr):Prop:=t.2.2<PP
theorem ZL_0:ZL (0,0,0):=zgU 0
theorem tw_m{x y z s:Fp}(h:2*y*s=x*x+x*x+x*x-3):3*((x*(z*z)-z*z)*(x*(z*z)+z*z))=2*y*s*(z*z*(z*z)):=by grobner
theorem tw_x(x y z s:Fp):2*y*s*(z*z*(z*z))*(2*y*s*(z*z*(z*z)))-(4*(x*(z*z)*(y*(z*z*z)*(y*(z*z*z))))+4*(x*(z*z)*(y*(z*z*z)*(y*(z*z*z))))) = (s*s-x-x)*(2*(y*(z*z*z)*z)*(2*(y*(z*z*z)*z))):=by grobner
theorem tw_y(x y z s X:Fp):2*y*s*(z*z*(z*z))*(4*(x*(z*z)*(y*(z*z*z)*(y*(z*z*z))))-X*(2*(y*(z*z*z)*z)*(2*(y*(z*z*z)*z))))-8*(y*(z*z*z)*(y*(z*z*z))*(y*(z*z*z)*(y*(z*z*z)))) = (s*(x-X)-y)*(2*(y*(z*z*z)*z)*(2*(y*(z*z*z)*z))*(2*(y*(z*z*z)*z))):=by grobner
theorem zoF{a b:Fp}(ha:a≠0)(hb:b≠0):a*b≠0:=fun h=>(zrI h).elim ha hb
theorem dbl0{y:Fp}(h:y = - y):y=0:=by
 have h2:2*y=0:=by grobner
 exact(zrI h2).resolve_left yvG
theorem neg_0:- (0:Fp)=0:=by grobner
theorem mul_0'(a:Fp):a*0=0:=by grobner
theorem tang2{x y s:Fp}(h:2*y*s+s*s*(x-x)=x*x+x*x+x*x-3):2*y*s=x*x+x*x+x*x-3:=by grobner
theorem cl_3:cl 3=3:=rfl
theorem cl_4:cl 4=4:=rfl
theorem cl_8:cl 8=8:=rfl
theorem cl_2:cl 2=2:=rfl
theorem yhA(y z:Nat):cl (jtwZ y z)=2*(cl y*cl z):=by rw[jtwZ,zfU,zfU,cl_2]
theorem cl_jtwX(x y z:Nat):cl (jtwX x y z)=3*((cl x-cl z*cl z)*(cl x+cl z*cl z))*(3*((cl x-cl z*cl z)*(cl x+cl z*cl z)))-(4*(cl x*(cl y*cl y))+4*(cl x*(cl y*cl y))):=by rw[jtwX];simp only[ybI,yqP,zfU,cl_3,cl_4]
theorem cl_jtwY(x y z:Nat):cl (jtwY x y z)=3*((cl x-cl z*cl z)*(cl x+cl z*cl z))*(4*(cl x*(cl y*cl y))-cl (jtwX x y z))-8*(cl y*cl y*(cl y*cl y)):=by rw[jtwY];simp only[ybI,yqP,zfU,cl_3,cl_4,cl_8]
theorem yrP{t:Tr}{P:Pt}(h:Rep t P)(hP:onP P):Rep (jtw t) (aadd P P):=by
 obtain⟨X,Y,Z⟩:=t
 match P with
 |none=>have h0:cl Z=0:=h;show cl (jtwZ Y Z)=0;rw[yhA,h0,mul_0',mul_0']
 |some (x,y)=>
  obtain⟨hz,hx,hy⟩:=h;have hz:cl Z≠0:=hz;have hx:cl X=x*(cl Z*cl Z):=hx;have hy:cl Y=y*(cl Z*cl Z*cl Z):=hy;have hon:onE x y:=hP;rw[zeB];by_cases hyy:y = - y
  ·rw[zH ⟨rfl,hyy⟩];have h0:=dbl0 hyy;show cl (jtwZ Y Z)=0;rw[yhA,hy,h0]
   grobner
  ·rw[zG fun h=>hyy h.2];have hn:¬(x=x/\y = - y):=fun h=>hyy h.2;have hs:=tang2 (zzE hon hon hn).tang;generalize zmK x y x y=s at hs;have hm:=tw_m (z:=cl Z) hs;have eZ:cl (jtwZ Y Z)=2*(y*(cl Z*cl Z*cl Z)*cl Z):=by rw[yhA,hy]
   have eX:cl (jtwX X Y Z)=(s*s-x-x)*(cl (jtwZ Y Z)*cl (jtwZ Y Z)):=by rw[cl_jtwX,eZ,hx,hy,hm,tw_x]
   have eY:cl (jtwY X Y Z)=(s*(x-(s*s-x-x))-y)*(cl (jtwZ Y Z)*cl (jtwZ Y Z)*cl (jtwZ Y Z)):=by rw[cl_jtwY,eX,eZ,hx,hy,hm,tw_y]
   refine⟨?_,eX,eY⟩;show cl (jtwZ Y Z)≠0;rw[eZ];have hy0:y≠0:=fun h=>hyy (by rw[h,neg_0]);exact zoF yvG (zoF (zoF hy0 (zoF (zoF hz hz) hz)) hz)
theorem ad_h{x1 x2 a b:Fp}:x2*(b*b)*(a*a)-x1*(a*a)*(b*b)=(x2-x1)*(a*b*(a*b)):=by grobner
theorem ad_r{y1 y2 a b:Fp}:y2*(b*b*b)*(a*a*a)-y1*(a*a*a)*(b*b*b)=(y2-y1)*(a*b*(a*b)*(a*b)):=by grobner
theorem ad_u{x1 a b:Fp}:x1*(a*a)*(b*b)=x1*(a*b*(a*b)):=by grobner
theorem ad_s{y1 a b:Fp}:y1*(a*a*a)*(b*b*b)=y1*(a*b*(a*b)*(a*b)):=by grobner
theorem ad_x(x1 d w s:Fp):s*d*(w*w*w)*(s*d*(w*w*w))-d*(w*w)*(d*(w*w)*(d*(w*w)))-(x1*(w*w)*(d*(w*w)*(d*(w*w)))+x1*(w*w)*(d*(w*w)*(d*(w*w)))) = (s*s-x1-(x1+d))*(d*(w*w)*w*(d*(w*w)*w)):=by grobner
theorem ad_y(x1 y1 d w s X:Fp):s*d*(w*w*w)*(x1*(w*w)*(d*(w*w)*(d*(w*w)))-X*(d*(w*w)*w*(d*(w*w)*w)))-y1*(w*w*w)*(d*(w*w)*(d*(w*w)*(d*(w*w)))) = (s*(x1-X)-y1)*(d*(w*w)*w*(d*(w*w)*w)*(d*(w*w)*w)):=by grobner
theorem sub_d(x1 x2:Fp):x1+(x2-x1)=x2:=by grobner
theorem sub_0{a b:Fp}(h:a-b=0):b=a:=by grobner
theorem ygU{p q:Tr}{P Q:Pt}(hp:Rep p P)(hq:Rep q Q)(hP:onP P)(hQ:onP Q)(zp:ZL p)(zq:ZL q):Rep (jad p q) (aadd P Q):=by
 unfold jad;by_cases h1:p.2.2=0
 ·rw[zH h1]
  match P with
  |none=>rw[zeZ];exact hq|some (x,y)=>exact absurd (by rw[h1];exact cl_0) hp.1
 rw[zG h1];by_cases h2:q.2.2=0
 ·rw[zH h2]
  match Q with
  |none=>rw[zdW];exact hp|some (x,y)=>exact absurd (by rw[h2];exact cl_0) hq.1
 rw[zG h2];have n1:cl p.2.2≠0:=fun h=>h1 ((ykX zp).1 h);have n2:cl q.2.2≠0:=fun h=>h2 ((ykX zq).1 h)
 match P,Q with
 |none,_=>exact absurd hp n1|some _,none=>exact absurd hq n2|some (x1,y1),some (x2,y2)=>
  obtain⟨X1,Y1,Z1⟩:=p;obtain⟨X2,Y2,Z2⟩:=q;obtain⟨_,hx1,hy1⟩:=hp;obtain⟨_,hx2,hy2⟩:=hq
  dsimp only at *
  have o1:onE x1 y1:=hP;have o2:onE x2 y2:=hQ;have hw:cl Z1*cl Z2≠0:=zoF n1 n2;generalize hu:fm X1 (fm Z2 Z2)=u;generalize hv:fm X2 (fm Z1 Z1)=v;generalize hs:fm Y1 (fm (fm Z2 Z2) Z2)=s1;generalize ht:fm Y2 (fm (fm Z1 Z1) Z1)=t1;have eu:cl u=x1*(cl Z1*cl Z2*(cl Z1*cl Z2)):=by rw[<-hu,zfU,zfU,hx1,ad_u]
  have es:cl s1=y1*(cl Z1*cl Z2*(cl Z1*cl Z2)*(cl Z1*cl Z2)):=by rw[<-hs,zfU,zfU,zfU,hy1,ad_s]
  have eh:cl (fs v u)=(x2-x1)*(cl Z1*cl Z2*(cl Z1*cl Z2)):=by rw[ybI,<-hu,<-hv,zfU,zfU,zfU,zfU,hx1,hx2,ad_h]
  have er:cl (fs t1 s1)=(y2-y1)*(cl Z1*cl Z2*(cl Z1*cl Z2)*(cl Z1*cl Z2)):=by rw[ybI,<-hs,<-ht,zfU,zfU,zfU,zfU,zfU,zfU,hy1,hy2,ad_r]
  have hh:fs v u<PP:=fs_lt _ _;have hr:fs t1 s1<PP:=fs_lt _ _;generalize fs v u=H at eh hh;generalize fs t1 s1=R at er hr;unfold jad2;by_cases c1:H=0
  ·rw[zH c1];have hx:x1=x2:=by rw[c1,cl_0]at eh;exact sub_0 ((zrI eh.symm).resolve_right (zoF hw hw))
   by_cases c2:R=0
   ·rw[zH c2];have hy:y1=y2:=by rw[c2,cl_0]at er;exact sub_0 ((zrI er.symm).resolve_right (zoF (zoF hw hw) hw))
    subst hx hy;exact yrP (t:=(X1,Y1,Z1)) (P:=some (x1,y1)) ⟨n1,hx1,hy1⟩ hP
   ·rw[zG c2];have hy:y1≠y2:=fun e=>c2 ((ykX hr).1 (by rw[er,e];grobner));rw[zeB,zH ⟨hx,(ykL o1 o2 hx).resolve_left hy⟩];exact cl_0
  ·rw[zG c1];have hd:x2-x1≠0:=fun e=>c1 ((ykX hh).1 (by rw[eh,e];grobner));have hn:¬(x1=x2/\y1 = - y2):=fun h=>hd (by rw[h.1];grobner);have hc:=(zzE o1 o2 hn).chord;rw[zeB,zG hn];generalize zmK x1 y1 x2 y2=s at hc;rw[<-hc]at er;have ez:cl (fm H (fm Z1 Z2))=(x2-x1)*(cl Z1*cl Z2*(cl Z1*cl Z2))*(cl Z1*cl Z2):=by rw[zfU,zfU,eh]
   generalize cl Z1*cl Z2=w at *;have ex:cl (fs (fs (fm R R) (fm H (fm H H))) (fa (fm u (fm H H)) (fm u (fm H H))))=(s*s-x1-x2)*(cl (fm H (fm Z1 Z2))*cl (fm H (fm Z1 Z2))):=by have k:=ad_x x1 (x2-x1) w s;rw[sub_d]at k;rw[ez,<-k];simp only[ybI,yqP,zfU,eh,er,eu]
   refine⟨?_,ex,?_⟩
   ·show cl (fm H (fm Z1 Z2))≠0;rw[ez];exact zoF (zoF hd (zoF hw hw)) hw
   ·show cl (fs (fm R (fs (fm u (fm H H)) (fs (fs (fm R R) (fm H (fm H H))) (fa (fm u (fm H H)) (fm u (fm H H)))))) (fm s1 (fm H (fm H H))))=(s*(x1-(s*s-x1-x2))-y1)*(cl (fm H (fm Z1 Z2))*cl (fm H (fm Z1 Z2))*cl (fm H (fm Z1 Z2)));rw[ybI,zfU,ybI,ex,ez,<-ad_y];simp only[zfU,eh,er,eu,es]
def toA:Pt->Ap
 |none=>(0,0,true)|some (x,y)=>(x.val,y.val,false)
def ofA(p:Ap):Pt:=bif p.2.2 then none else some (cl p.1,cl p.2.1)
theorem fi_cl(z:Nat):cl (invV 0 z)=fi (cl z):=cl_inv z
theorem end_x{x z i:Fp}(h:i*z=1):x*(z*z)*(i*i)=x:=by grobner
theorem end_y{y z i:Fp}(h:i*z=1):y*(z*z*z)*(i*i*i)=y:=by grobner
theorem yvN{a:Nat}{x:Fp}(ha:a<PP)(h:cl a=x):a=x.val:=by rw[<-h,zoK,aP ha]
theorem yrU{t:Tr}{P:Pt}(h:Rep t P):jend t=toA P:=by
 unfold jend
 match P with
 |none=>have h0:t.2.2%modN 0=0:=ykG.1 h;rw[zH h0];rfl|some (x,y)=>obtain⟨hz,hx,hy⟩:=h;have h0:t.2.2%modN 0≠0:=fun e=>hz (ykG.2 e);rw[zG h0];have hi:=ydT hz;rw[<-fi_cl]at hi;have ex:fm t.1 (fm (invV 0 t.2.2) (invV 0 t.2.2))=x.val:=yvN (ymC _ _) (by rw[zfU,zfU,hx,end_x hi]);have ey:fm t.2.1 (fm (fm (invV 0 t.2.2) (invV 0 t.2.2)) (invV 0 t.2.2))=y.val:=yvN (ymC _ _) (by rw[zfU,zfU,zfU,hy,end_y hi]);rw[ex,ey];rfl
theorem zpF{p:Ap}(h:onT p=true):onP (ofA p):=by
 obtain⟨x,y,i⟩:=p;cases i
 ·exact onB_on h
 ·trivial
theorem on_toA{P:Pt}(h:onP P):onT (toA P)=true:=by
 match P with
 |none=>rfl|some (x,y)=>exact onB_of x.isLt y.isLt (by show onE (cl x.val) (cl y.val);rw[ycY,ycY];exact h)
theorem xdV{p:Ap}(h:onT p=true):toA (ofA p)=p:=by
 obtain⟨x,y,i⟩:=p;cases i
 ·have hl:=xbC h;show((cl x).val,(cl y).val,false)=_;rw[zoK,zoK,aP hl.1,aP hl.2]
 ·have hz:x=0/\y=0:=by have:(x==0&&y==0)=true:=h;simpa using this
  obtain⟨rfl,rfl⟩:=hz;rfl
theorem zyW(P:Pt):ofA (toA P)=P:=by
 match P with
 |none=>rfl|some (x,y)=>show some (cl x.val,cl y.val)=_;rw[ycY,ycY]
theorem mul_11(x:Fp):x=x*(1*1):=by grobner
theorem xeZ(x:Fp):x=x*(1*1*1):=by grobner
theorem ylU{p:Ap}:Rep (jof p.1 p.2.1 p.2.2) (ofA p):=by
 obtain⟨x,y,i⟩:=p;cases i
 ·refine⟨?_,?_,?_⟩
  ·exact xbI
  ·exact mul_11 _
  ·exact xeZ _
 ·exact cl_0
theorem yjF{x y:Nat}{i:Bool}:ZL (jof x y i):=by
 cases i
 ·exact zoB 0
 ·exact ZL_0
theorem ygD(t:Tr):ZL (jtw t):=ymC _ _
theorem ZL_jad{p q:Tr}(hp:ZL p)(hq:ZL q):ZL (jad p q):=by
 unfold jad;split
 ·exact hq
 ·split
  ·exact hp
  ·unfold jad2;split
   ·split
    ·exact ygD _
    ·exact ZL_0
   ·exact ymC _ _
theorem ylF{p q:Ap}(hp:onT p=true)(hq:onT q=true):cadd p q=toA (aadd (ofA p) (ofA q)):=by rw[(xcK hp hq).1];exact yrU (ygU ylU ylU (zpF hp) (zpF hq) yjF yjF)
theorem toA_inj{P Q:Pt}(h:toA P=toA Q):P=Q:=by rw[<-zyW P,h,zyW]
theorem neg_val(x:Fp):fn x.val=(-x).val:=yvN (fn_lt _) (by rw[cl_fn,ycY])
theorem yxK{p:Ap}(hp:onT p=true):cneg p=toA (aneg (ofA p)):=by
 rw[(cneg_t hp).1];obtain⟨x,y,i⟩:=p;cases i
 ·have hl:=xbC hp;show(x,fn y,false)=((cl x).val,(- cl y).val,false);rw[zoK,aP hl.1,<-neg_val,zoK,aP hl.2]
 ·have hz:x=0/\y=0:=by have:(x==0&&y==0)=true:=hp;simpa using this
  obtain⟨rfl,rfl⟩:=hz;show(0,fn 0,true)=(0,0,true);have:fn 0=0:=zC (by kernel_rfl);rw[this]
def smul:Nat->Pt->Pt
 |0,_=>none|n+1,P=>aadd (smul n P) P
theorem zjR{P:Pt}(h:onP P):∀n,onP (smul n P)
 |0=>trivial|n+1=>zuV (zjR h n) h
theorem zfK{P:Pt}(h:onP P)(m:Nat):∀n,smul (m+n) P=aadd (smul m P) (smul n P)
 |0=>(zdW _).symm|n+1=>by show aadd (smul (m+n) P) P=aadd (smul m P) (aadd (smul n P) P);rw[zfK h m n,zuX (zjR h m) (zjR h n) h]
theorem ytK(P:Pt):smul 1 P=P:=zeZ P
theorem zpL:∀n,smul n none=none
 |0=>rfl|n+1=>by show aadd (smul n none) none=none;rw[zpL n];rfl
theorem znV{P:Pt}(h:onP P)(m:Nat):∀n,smul (n*m) P=smul n (smul m P)
 |0=>by rw[Nat.zero_mul];rfl
 |n+1=>by rw[Nat.succ_mul,zfK h,znV h m n];rfl
theorem rep_mul{t:Tr}{P:Pt}(h:Rep t P)(hP:onP P)(z:ZL t)(n:Nat):Rep (jmul t n) (smul n P):=by
 induction n using Nat.strongRecOn with
 |ind n ih=>
  by_cases h0:n=0
  ·subst h0;rw[yjT];exact cl_0
  have hr:=ih (n/2) (Nat.div_lt_self (cN h0) (by decide));have h2:=yrP hr (zjR hP _);rw[<-zfK hP]at h2;by_cases hb:n%2=1
  ·rw[ypW hb];have h3:=ygU h2 h (zjR hP _) hP (ygD _) z;have e:smul n P=aadd (smul (n/2+n/2) P) P:=by show _=smul (n/2+n/2+1) P;congr 1;omega
   rw[e];exact h3
  ·rw[xbV hb];have e:n=n/2+n/2:=by omega
   rw[<-e]at h2;exact h2
theorem zkF{p:Ap}(hp:onT p=true)(k:Nat):cmul k p=toA (smul k (ofA p)):=by rw[(xbX hp).1];exact yrU (rep_mul ylU (zpF hp) yjF k)
theorem zuC{p:Ap}(hp:onT p=true)(k:Nat):onT (cmul k p)=true:=by rw[zkF hp];exact on_toA (zjR (zpF hp) k)
theorem ywA{P:Pt}:aadd P (aneg P)=none:=by
 match P with
 |none=>rfl|some (x,y)=>show aadd (some (x,y)) (some (x,- y))=none;rw[zeB,zH ⟨rfl,by grobner⟩]
end Go.Proofs.YtmbcolbbekbccaaGreat
