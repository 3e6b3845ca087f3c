/- What some functions compute, and that they do. Conditions: as each theorem says. -/
import Derived.Test.YtmkomlbiaebddaaGreatDoorRows
import Derived.Test.YtmkomlbiaebddaaGreatDoorQdL
namespace Go.Proofs.YtmkomlbiaebddaaGreatDoor
open Go Go.RowKit
section
attribute [local irreducible] wpList wpT Code.wp Calls Code.rounds
variable {S:Mem}{w:World}
theorem yjH:TOne Tryz.prog 102:=⟨fun _=>by kernel_rfl,fun _=>by kernel_rfl⟩
theorem u152:Tryz.prog.underlying 152=some (.slice 102):=by kernel_rfl
theorem is95:IsFn Tryz.prog 95:=isFn Tryz.func95
theorem is119:IsFn Tryz.prog 119:=isFn Tryz.func119
theorem is120:IsFn Tryz.prog 120:=isFn Tryz.func120
theorem is121:IsFn Tryz.prog 121:=isFn Tryz.func121
theorem is122:IsFn Tryz.prog 122:=isFn Tryz.func122
theorem is156:IsFn Tryz.prog 156:=isFn Tryz.func156
theorem is157:IsFn Tryz.prog 157:=isFn Tryz.func157
theorem ydB:IsFn Tryz.prog 158:=isFn Tryz.func158
theorem ykF:TSn Tryz.prog 129 133 (.int .u32 0) [.int .u32 0] 4 1:=TSn.mk' (by kernel_rfl) (by kernel_rfl) rfl rfl rfl rfl
theorem yrV:TSn Tryz.prog 152 102 (.int .u64 0) [.int .u64 0] 8 1:=TSn.mk' (by kernel_rfl) (by kernel_rfl) rfl rfl rfl rfl
theorem zsI:TSz Tryz.prog 102 1:=fun _=>by kernel_rfl
def ylQ(x0:List UInt64)(x1:List UInt64)(s1:Int×(List UInt64))(s2:UInt64×Int×(List UInt64)):Option ((UInt64×Int×(List UInt64))⊕(UInt64×(List UInt64))):=
  bif decide (s2.2.1<((x1).length:Int))then(Option.bind (idx s2.2.2 (w64 (s1.1+s2.2.1))) fun y2=>Option.bind (idx x0 s1.1) fun y3=>Option.bind (idx x1 s2.2.1) fun y4=>Option.bind (idx s2.2.2 (w64 (s1.1+s2.2.1))) fun _y5=>Option.bind (setL s2.2.2 ((w64 (s1.1+s2.2.1)):Int) ((i64 (((s2.1).toNat:Int)+(((i64 (((y2).toNat:Int)+(((i64 (((y3).toNat:Int)*((y4).toNat:Int)))).toNat:Int)))).toNat:Int)))&&&(65535:UInt64))) fun y6=>some (.inl (((i64 (shrI .u64 (((i64 (((s2.1).toNat:Int)+(((i64 (((y2).toNat:Int)+(((i64 (((y3).toNat:Int)*((y4).toNat:Int)))).toNat:Int)))).toNat:Int)))).toNat:Int) 16)),(w64 (s2.2.1+1)),y6))))else(some (.inr ((s2.1,s2.2.2))))
def ymC(x0:List UInt64)(x1:List UInt64)(s1:Int×(List UInt64)):Option ((Int×(List UInt64))⊕((List UInt64))):=
  bif decide (s1.1<((x0).length:Int))then(Option.bind (Option.bind (Option.bind (iter (ylQ x0 x1 s1) (((0:UInt64),0,s1.2))) (fun e=>some (e))) (fun t3=>Option.bind (idx t3.2 (w64 (s1.1+((x1).length:Int)))) fun _y7=>Option.bind (setL t3.2 ((w64 (s1.1+((x1).length:Int))):Int) t3.1) fun y8=>some (y8))) (fun t2=>some (.inl (((w64 (s1.1+1)),t2)))))else(some (.inr (s1.2)))
def yeW(x0:List UInt64)(x1:List UInt64):Option ((List UInt64)):=
  Option.bind (mkL (w64 (((x0).length:Int)+((x1).length:Int))) (0:UInt64)) fun y1=>Option.bind (Option.bind (iter (ymC x0 x1) ((0,y1))) (fun e=>some (e))) (fun t1=>some (t1))
theorem yrS (hS : Sub S w) {v0_ : Value} {x0 : List UInt64} (h0_ : RdS S v0_ x0) {v1_ : Value} {x1 : List UInt64} (h1_ : RdS S v1_ x1) {r : (List UInt64)} (hF : yeW x0 x1 = some r) :
    Calls Tryz.prog 156 #[v0_,v1_] w fun e w'=>Ext w w'∧∃(v0':Value),e = .returned (v0')∧RdS (gr S w w') v0' r:=by
 refine enter (n:=62) Tryz.func156 rfl rfl rfl ?_
 have H:=HS.start hS
 refine sr fun K1 hK1=>asN rfl<|xk hK1<|sr fun K2 hK2=>p_mv (v:=v0_) rfl<|zaC (r_lenR' u152 rfl h0_ H.sub)<|p_mv (v:=v1_) rfl<|zaC (r_lenR' u152 rfl h1_ H.sub)<|zaC (zdS rfl rfl) ?_
 refine bn hF fun y1 e1 hF=>zvI (yhM (zx:=(0:UInt64)) yrV rfl H rfl rfl (xdY (x:=(0:UInt64)) rfl) e1 (Int.le_refl _) (yaB e1).2.1) fun w1 v1 cs1 rs1 H g1=>p_as (v:=v1) rfl<|xk hK2<|wp_seq_k fun K3 hK3=>zbT fun m1 k1=>bn hF fun t1 hE1 hF1=>?_
 have J3:∀(cs11 rs6:LV) (m10:FM) (w9:World),Kp (6::7::8::rg 15 46 []) m10 m1→HS ⟨S,[],w⟩ S w9 [.osl (v1) (t1).length 1 cs11 rs6 102]→RL S cs11 t1→K3 (fr 62 m10) w9:=by
  clear H;intro cs11 rs6 m10 w9 k12 H g8
  have q20:look m10 5=v1:=(k12 5 rfl).trans (k1 5)
  refine hK3 _ _<|sr fun K16 hK16=>p_mv (v:=v1) q20<|p_as (v:=v1) rfl<|xk hK16<|wp_ret ?_
  obtain⟨S1,hle1,g9,H1⟩:=H.fixX (k:=0) rfl g8;clear H;have H:=H1;clear H1
  replace H:=hsn H
  obtain rfl:=osi hF1
  refine e_1 rfl (ziX rfl) ?_
  exact⟨H.toExt,_,rfl,RdS.mono g9 H.gr⟩
 refine sr fun K4 hK4=>asI rfl<|xk hK4<|wp_block<|zbT fun m2 k2=>bn hE1 fun out1 hL1 hE2=>zjM (6::7::8::rg 15 46 []) (fun(s1:Int×(List UInt64)) (m3:FM) (w2:World)=>∃(cs2 rs2:LV),look m3 6 = .int .i64 (s1.1)∧HS ⟨S,[],w⟩ S w2 [.osl (v1) (s1.2).length 1 cs2 rs2 102]∧RL S cs2 s1.2) hL1 ⟨_,_,(k2 6),H,g1⟩ ?_
 clear H;intro k4 s1 m3 w2 k3 hI1 o2 hb1 hh1;obtain⟨cs2,rs2,q1,H,g2⟩:=hI1
 have q2:look m3 0=v0_:=(k3 0 rfl).trans ((k2 0).trans (k1 0))
 have q3:look m3 1=v1_:=(k3 1 rfl).trans ((k2 1).trans (k1 1))
 have q4:look m3 5=v1:=(k3 5 rfl).trans ((k2 5).trans (k1 5))
 refine wp_seq_k fun K5 hK5=>sr fun K6 hK6=>p_mv q1<|p_mv (v:=v0_) q2<|zaC (r_lenR' u152 rfl h0_ H.sub)<|zaC (zfP rfl rfl)<|xk hK6 ?_
 refine zfJ hb1 rfl (fun hb1 hc1=>?_) fun hb1 hc1=>?_
 ·refine wp_skip ?_
  refine xn hK5<|wp_seq_k fun K7 hK7=>zbT fun m4 k5=>bn hb1 fun t2 hE3 hF2=>?_
  have J2:∀(cs10 rs5:LV) (m9:FM) (w8:World),Kp (7::8::rg 21 40 []) m9 m4→HS ⟨S,[],w⟩ S w8 [.osl (v1) (t2).length 1 cs10 rs5 102]→RL S cs10 t2→K7 (fr 62 m9) w8:=by
   clear H;intro cs10 rs5 m9 w8 k11 H g7
   have q16:=(k11 0 rfl).trans ((k5 0).trans q2)
   have q17:=(k11 1 rfl).trans ((k5 1).trans q3)
   have q18:=(k11 5 rfl).trans ((k5 5).trans q4)
   have q19:=(k11 6 rfl).trans ((k5 6).trans q1)
   refine hK7 _ _<|wp_region_lit<|p_mv q19<|zaC (zdS rfl rfl)<|asI rfl<|wpList_nil<|zaJ ?_
   obtain rfl:=osi hF2
   exact⟨((w64 (s1.1+1)),t2),_,rfl,(kS k11 rfl (kN k5 (kS k3 rfl kcx))),⟨_,_,rfl,H,g7⟩,hh1⟩
  refine wp_block<|sr fun K8 hK8=>asI rfl<|xk hK8<|wp_seq_k fun K9 hK9=>zbT fun m5 k6=>bn hE3 fun t3 hE4 hF3=>?_
  have J1:∀(cs8 rs4:LV) (m8:FM) (w6:World),Kp (7::8::rg 21 33 []) m8 m5→look m8 7 = .int .u64 (((t3.1).toNat:Int))→HS ⟨S,[],w⟩ S w6 [.osl (v1) (t3.2).length 1 cs8 rs4 102]→RL S cs8 t3.2→K9 (fr 62 m8) w6:=by
   clear H;intro cs8 rs4 m8 w6 k10 q11 H g5
   have q12:=(k10 0 rfl).trans ((k6 0).trans ((k5 0).trans q2))
   have q13:=(k10 1 rfl).trans ((k6 1).trans ((k5 1).trans q3))
   have q14:=(k10 5 rfl).trans ((k6 5).trans ((k5 5).trans q4))
   have q15:=(k10 6 rfl).trans ((k6 6).trans ((k5 6).trans q1))
   refine hK9 _ _<|wp_region_lit<|p_mv (v:=v1) q14<|p_mv q15<|p_mv (v:=v1_) q13<|zaC (r_lenR' u152 rfl h1_ H.sub)<|zaC (zdS rfl rfl)<|p_mv q11<|bn hF3 fun y7 e7 hF3=>?_
   obtain⟨b5,c5,hv5⟩:=H.ownAt (k:=0) rfl (zbB e7)
   refine zaC (zaP (i:=((w64 (s1.1+((x1).length:Int))):Int).toNat) u152 zsI rfl hv5 rfl (zaB e7).1 (zbB e7)) ?_
   subst hv5
   refine bn hF3 fun y8 e8 hF3=>yfK (zlU (k:=0) (l:=[Value.int .u64 (((t3.1).toNat:Int))]) zsI rfl H rfl g5 rfl rfl (cells_one rfl) ysF e8) fun w7 cs9 H g6=>wpList_nil<|zdM<|zaJ ?_
   obtain rfl:=osi hF3
   exact J2 _ _ _ _ (kS k10 rfl (kN k6 kcx)) H g6
  refine sr fun K10 hK10=>asI rfl<|xk hK10<|wp_block<|zbT fun m6 k7=>bn hE4 fun out2 hL2 hE5=>?_
  refine zjM (7::8::rg 21 33 []) (fun(s2:UInt64×Int×(List UInt64)) (m7:FM) (w3:World)=>∃(cs3 rs3:LV),look m7 7 = .int .u64 (((s2.1).toNat:Int))∧look m7 8 = .int .i64 (s2.2.1)∧HS ⟨S,[],w⟩ S w3 [.osl (v1) (s2.2.2).length 1 cs3 rs3 102]∧RL S cs3 s2.2.2) hL2 ⟨_,_,((k7 7).trans (k6 7)),(k7 8),H,g2⟩ ?_
  clear H;intro k9 s2 m7 w3 k8 hI2 o5 hb2 hh2;obtain⟨cs3,rs3,q5,q6,H,g3⟩:=hI2
  have q7:=(k8 0 rfl).trans ((k7 0).trans ((k6 0).trans ((k5 0).trans q2)))
  have q8:=(k8 1 rfl).trans ((k7 1).trans ((k6 1).trans ((k5 1).trans q3)))
  have q9:=(k8 5 rfl).trans ((k7 5).trans ((k6 5).trans ((k5 5).trans q4)))
  have q10:=(k8 6 rfl).trans ((k7 6).trans ((k6 6).trans ((k5 6).trans q1)))
  refine wp_seq_k fun K11 hK11=>sr fun K12 hK12=>p_mv q6<|p_mv (v:=v1_) q8<|zaC (r_lenR' u152 rfl h1_ H.sub)<|zaC (zfP rfl rfl)<|xk hK12 ?_
  refine zfJ hb2 rfl (fun hb2 hc2=>?_) fun hb2 hc2=>?_
  ·refine wp_skip ?_
   refine xn hK11<|wp_seq_k fun K13 hK13=>wp_block<|wp_seq_k fun K14 hK14=>bn hb2 fun y2 e2 hb2=>?_
   obtain⟨b1,c1,hv1⟩:=H.ownAt (k:=0) rfl (zbB e2)
   subst hv1
   have hr1:=RL.get g3 (zaB e2).2;generalize hghr1:piece cs3 _ _=cs4 at hr1
   obtain rfl:=ykQ hr1
   refine bn hb2 fun y3 e3 hb2=>?_
   obtain⟨b2,o6,N1,c2,cs5,hv2,hi1,hc3,hr2⟩:=h0_.get (zaB e3).2
   obtain rfl:=ykQ hr2
   refine bn hb2 fun y4 e4 hb2=>?_
   obtain⟨b3,o7,N2,c3,cs6,hv3,hi2,hc4,hr3⟩:=h1_.get (zaB e4).2
   obtain rfl:=ykQ hr3
   refine wrS H 18 [] fun vs1 H=>?_
   refine tp (zaE q5)<|tp (zaE (v:=(sl b1 0 (s2.2.2).length c1)) q9)<|tp (zaE q10)<|tp (zaE q6)<|tp (zdS rfl rfl)<|tp (zaP (i:=((w64 (s1.1+s2.2.1)):Int).toNat) u152 zsI rfl rfl rfl (zaB e2).1 (zbB e2))<|t_v (fun w hx=>ziO (v:=.int .u64 (((y2).toNat:Int))) yjH (H.ext hx) (k:=0) rfl rfl (zbB e2) hghr1)<|tp (zaE (v:=v0_) q7) ?_
   refine tp (zaE q10)<|tp (zaP (i:=(s1.1:Int).toNat) u152 zsI rfl hv2 rfl (zaB e3).1 hi1)<|t_v (fun w hx=>zdK (p:=(o6+(s1.1:Int).toNat*1)) (o:=0) (v:=.int .u64 (((y3).toNat:Int))) yjH (H.ext hx).sub rfl hc3 rfl)<|tp (zaE (v:=v1_) q8)<|tp (zaE q6)<|tp (zaP (i:=(s2.2.1:Int).toNat) u152 zsI rfl hv3 rfl (zaB e4).1 hi2) ?_
   refine t_v (fun w hx=>zdK (p:=(o7+(s2.2.1:Int).toNat*1)) (o:=0) (v:=.int .u64 (((y4).toNat:Int))) yjH (H.ext hx).sub rfl hc4 rfl)<|tp (ydJ rfl rfl (zbR _))<|tp (ziZ rfl rfl (zbR _))<|tp (ziZ rfl rfl (zbR _))<|zmR<|H.tn fun w4 H=>asI rfl<|wpList_nil<|zdC<|xn hK14<|sr fun K15 hK15=>?_
   refine p_mv (v:=sl b1 0 (s2.2.2).length c1) q9<|p_mv q10<|p_mv q6<|zaC (zdS rfl rfl)<|mvI rfl<|zaC (zbH (bo:=.and) (by simp) rfl rfl (zqA _ (65535:UInt64)))<|bn hb2 fun y5 e5 hb2=>zaC (zaP (i:=((w64 (s1.1+s2.2.1)):Int).toNat) u152 zsI rfl (HS.ownV H (k:=0) rfl) rfl (zaB e5).1 (zbB e5))<|bn hb2 fun y6 e6 hb2=>?_
   refine yfK (zlU (k:=0) (l:=[Value.int .u64 (((((i64 (((s2.1).toNat:Int)+(((i64 (((y2).toNat:Int)+(((i64 (((y3).toNat:Int)*((y4).toNat:Int)))).toNat:Int)))).toNat:Int)))&&&(65535:UInt64))).toNat:Int))]) zsI rfl H rfl g3 rfl rfl (cells_one rfl) ysF e6) fun w5 cs7 H g4=>xk hK15<|wp_region_lit<|mvI rfl<|zaC (zqO rfl rfl (by decide) (zoF _ _))<|asI rfl ?_
   refine wpList_nil<|zdM<|xn hK13<|wp_region_lit<|p_mv q6<|zaC (zdS rfl rfl)<|asI rfl<|wpList_nil<|zaJ ?_
   obtain rfl:=osi hb2
   exact⟨((i64 (shrI .u64 (((i64 (((s2.1).toNat:Int)+(((i64 (((y2).toNat:Int)+(((i64 (((y3).toNat:Int)*((y4).toNat:Int)))).toNat:Int)))).toNat:Int)))).toNat:Int) 16)),(w64 (s2.2.1+1)),y6),_,rfl,(kS k8 rfl kcx),⟨_,_,rfl,rfl,H,g4⟩,hh2⟩
  ·refine wp_exit ?_
   refine zaW<|zaW<|ziQ<|zaJ ?_
   obtain rfl:=osi hb2
   obtain rfl:=osi hh2
   obtain rfl:=osi hE5
   exact J1 _ _ _ _ (kS k8 rfl (kN k7 kcx)) q5 H g3
 ·refine wp_exit ?_
  refine zaW<|zaW<|ziQ<|zaJ ?_
  obtain rfl:=osi hb1
  obtain rfl:=osi hh1
  obtain rfl:=osi hE2
  exact J3 _ _ _ _ (kS k3 rfl (kN k2 kcx)) H g2
def ylB(x0:List UInt64)(x1:UInt64)(x2:Int)(s1:Int):Option ((Int)⊕((Bool)⊕(Unit))):=
  bif decide ((0:Int)≤s1)then(Option.bind (bif(s1==(w64 ((2:Int)*x2)))then(some (x1))else(some ((0:UInt64)))) (fun t2=>Option.bind (idx x0 s1) fun y1=>bif(((y1).toNat:Int) != ((t2).toNat:Int))then(Option.bind (idx x0 s1) fun y2=>some (.inr (.inl (decide (((t2).toNat:Int)<((y2).toNat:Int))))))else(some (.inl ((w64 (s1-1)))))))else(some (.inr (.inr (()))))
def ydY(x0:List UInt64)(x1:UInt64)(x2:Int):Option (Bool):=
  jn (Option.bind (iter (ylB x0 x1 x2) ((w64 (((x0).length:Int)-1)))) (fun e=>jnO e (fun e1=>some (.inr (e1))) (fun e2=>some (.inl (e2))))) (fun _t1=>some (false)) (fun e=>some (e))
theorem yrY (hS : Sub S w) {v0_ : Value} {x0 : List UInt64} (h0_ : RdS S v0_ x0) {x1 : UInt64} {x2 : Int} {r : Bool} (hF : ydY x0 x1 x2 = some r) :
    Calls Tryz.prog 157 #[v0_,.int .u64 x1.I,.int .i64 (x2)] w fun e w'=>e = .returned (.bool (r))∧Ext w w':=by
 refine enter (n:=33) Tryz.func157 rfl rfl rfl ?_
 have H:=HS.start hS
 refine sr fun K1 hK1=>asB rfl<|xk hK1<|wp_seq_k fun K2 hK2=>zbT fun m1 k1=>?_
 obtain⟨o1,hE1,hF1⟩:=ylU hF
 have J2:∀(t1:Unit) (m6:FM) (w3:World),o1 = .inl t1→Kp (rg 6 27 []) m6 m1→HS ⟨S,[],w⟩ S w3 []→K2 (fr 33 m6) w3:=by
  clear H;intro t1 m6 w3 ho k7 H
  replace hF1:=jnO_l hF1 ho
  refine hK2 _ _<|sr fun K12 hK12=>asB rfl<|xk hK12<|wp_ret ?_
  obtain rfl:=osi hF1
  refine e_1 rfl (ziX rfl) ?_
  exact⟨rfl,H.toExt⟩
 refine sr fun K3 hK3=>p_mv (v:=v0_) (k1 0)<|zaC (r_lenR' u152 rfl h0_ H.sub)<|zaC (zoW rfl rfl)<|asI rfl<|xk hK3<|wp_block<|zbT fun m2 k2=>bn hE1 fun out1 hL1 hE2=>?_
 refine zjM (6::7::8::rg 12 21 []) (fun(s1:Int) (m3:FM) (w1:World)=>look m3 7 = .int .i64 (s1)∧HS ⟨S,[],w⟩ S w1 []) hL1 ⟨(k2 7),H⟩ ?_
 clear H;intro k4 s1 m3 w1 k3 hI1 o2 hb1 hh1;obtain⟨q1,H⟩:=hI1
 have q2:look m3 0=v0_:=(k3 0 rfl).trans ((k2 0).trans (k1 0))
 have q3:look m3 1 = .int .u64 x1.I:=(k3 1 rfl).trans ((k2 1).trans (k1 1))
 have q4:look m3 2 = .int .i64 (x2):=(k3 2 rfl).trans ((k2 2).trans (k1 2))
 refine wp_seq_k fun K4 hK4=>sr fun K5 hK5=>p_mv q1<|zaC (yvH rfl rfl)<|xk hK5 ?_
 refine zfJ hb1 rfl (fun hb1 hc1=>?_) fun hb1 hc1=>?_
 ·refine wp_skip ?_
  refine xn hK4<|wp_seq_k fun K6 hK6=>wp_block<|sr fun K7 hK7=>asI rfl<|xk hK7<|wp_seq_k fun K8 hK8=>zbT fun m4 k5=>bn hb1 fun t2 hE3 hF2=>?_
  have J1:∀(m5:FM) (w2:World),Kp [8,16,17,18,19,20] m5 m4→look m5 8 = .int .u64 t2.I→HS ⟨S,[],w⟩ S w2 []→K8 (fr 33 m5) w2:=by
   clear H;intro m5 w2 k6 q5 H
   have q6:=(k6 0 rfl).trans ((k5 0).trans q2)
   have q7:=(k6 1 rfl).trans ((k5 1).trans q3)
   have q8:=(k6 2 rfl).trans ((k5 2).trans q4)
   have q9:=(k6 7 rfl).trans ((k5 7).trans q1)
   refine hK8 _ _<|sr fun K10 hK10=>p_mv (v:=v0_) q6<|p_mv q9<|bn hF2 fun y1 e1 hF2=>?_
   obtain⟨b1,o4,N1,c1,cs1,hv1,hi1,hc3,hr1⟩:=h0_.get (zaB e1).2
   refine zaC (zaP (i:=(s1:Int).toNat) u152 zsI rfl hv1 rfl (zaB e1).1 hi1) ?_
   obtain rfl:=ykQ hr1
   refine zaC (zdK (p:=(o4+(s1:Int).toNat*1)) (o:=0) (v:=.int .u64 y1.I) yjH H.sub rfl hc3 rfl)<|p_mv q5<|zaC (yoG rfl rfl)<|xk hK10 ?_
   refine zfJ hF2 rfl (fun hF2 hc4=>?_) fun hF2 hc4=>?_
   ·refine sr fun K11 hK11=>?_
    refine p_mv (v:=v0_) q6<|p_mv q9<|bn hF2 fun y2 e2 hF2=>?_
    obtain⟨b2,o5,N2,c2,cs2,hv2,hi2,hc5,hr2⟩:=h0_.get (zaB e2).2
    refine zaC (zaP (i:=(s1:Int).toNat) u152 zsI rfl hv2 rfl (zaB e2).1 hi2) ?_
    obtain rfl:=ykQ hr2
    refine zaC (zdK (p:=(o5+(s1:Int).toNat*1)) (o:=0) (v:=.int .u64 y2.I) yjH H.sub rfl hc5 rfl)<|p_mv q5<|zaC (yaE rfl rfl)<|asB rfl<|xk hK11<|wp_ret<|b_ret<|yvF<|yvF ?_
    refine b_ret<|yvF ?_
    obtain rfl:=osi hF2
    obtain rfl:=osi hh1
    obtain rfl:=osi hE2
    obtain rfl:=osi hF1
    refine e_1 rfl (ziX rfl) ?_
    exact⟨rfl,H.toExt⟩
   ·refine wp_skip ?_
    refine zdM<|xn hK6<|wp_region_lit<|p_mv q9<|zaC (zoW rfl rfl)<|asI rfl<|wpList_nil<|zaJ ?_
    obtain rfl:=osi hF2
    exact⟨(w64 (s1-1)),_,rfl,(kS k6 rfl (kN k5 (kS k3 rfl kcx))),⟨rfl,H⟩,hh1⟩
  refine sr fun K9 hK9=>p_mv ((k5 7).trans q1)<|p_mv ((k5 2).trans q4)<|zaC (yeA rfl rfl)<|zaC (ykM rfl rfl)<|xk hK9 ?_
  refine zfJ hE3 rfl (fun hE3 hc2=>?_) fun hE3 hc2=>?_
  ·refine wp_region_lit ?_
   refine p_mv ((k5 1).trans q3)<|asI rfl<|wpList_nil<|zaJ ?_
   obtain rfl:=osi hE3
   exact J1 _ _ kcx rfl H
  ·refine wp_skip ?_
   refine zaJ ?_
   obtain rfl:=osi hE3
   exact J1 _ _ kcx (k5 8) H
 ·refine wp_exit ?_
  refine zaW<|zaW<|ziQ<|zaJ ?_
  obtain rfl:=osi hb1
  obtain rfl:=osi hh1
  obtain rfl:=osi hE2
  exact J2 _ _ _ rfl (kS k3 rfl (kN k2 kcx)) H
def yrO(x1:Int)(s1:UInt64×Int)(s2:(List UInt64)×Int):Option (((List UInt64)×Int)⊕((List UInt64))):=
  bif decide (s2.2<x1)then(Option.bind (yeW s2.1 ([((i64 (((s1.1).toNat:Int)+(((i64 (shlI .u64 1 s1.2))).toNat:Int)))&&&(65535:UInt64)),((i64 (shrI .u64 (((i64 (((s1.1).toNat:Int)+(((i64 (shlI .u64 1 s1.2))).toNat:Int)))).toNat:Int) 16))&&&(65535:UInt64)),(i64 (shrI .u64 (((i64 (((s1.1).toNat:Int)+(((i64 (shlI .u64 1 s1.2))).toNat:Int)))).toNat:Int) 32))]:List UInt64)) fun y2=>some (.inl ((y2,(w64 (s2.2+1))))))else(some (.inr (s2.1)))
def yrJ(x0:UInt64)(x1:Int)(s1:UInt64×Int):Option ((UInt64×Int)⊕(UInt64)):=
  bif decide ((0:Int)≤s1.2)then(Option.bind (Option.bind (chk (decide (0≤s1.2))) fun _y1=>Option.bind (Option.bind (iter (yrO x1 s1) ((([1]:List UInt64),0))) (fun e=>some (e))) (fun t3=>Option.bind (ydY t3 x0 x1) fun y3=>bif(!y3)then(some ((i64 (((s1.1).toNat:Int)+(((i64 (shlI .u64 1 s1.2))).toNat:Int)))))else(some (s1.1)))) (fun t2=>some (.inl ((t2,(w64 (s1.2-1)))))))else(some (.inr (s1.1)))
def zqT(x0:UInt64)(x1:Int):Option (UInt32):=
  Option.bind (Option.bind (iter (yrJ x0 x1) (((0:UInt64),40))) (fun e=>some (e))) (fun t1=>some ((i32 (((t1&&&(4294967295:UInt64))).toNat:Int))))
theorem yiB (hS : Sub S w) {x0 : UInt64} {x1 : Int} {r : UInt32} (hF : zqT x0 x1 = some r) :
    Calls Tryz.prog 120 #[.int .u64 (((x0).toNat:Int)),.int .i64 (x1)] w fun e w'=>e = .returned (.int .u32 (((r).toNat:Int)))∧Ext w w':=by
 refine enter (n:=45) Tryz.func120 rfl rfl rfl ?_
 have H:=HS.start hS
 refine sr fun K1 hK1=>asI rfl<|xk hK1<|sr fun K2 hK2=>asI rfl<|xk hK2<|wp_seq_k fun K3 hK3=>zbT fun m1 k1=>bn hF fun t1 hE1 hF1=>?_
 have J3:∀(S8:Mem) (m10:FM) (w9:World),Kp (rg 5 37 []) m10 m1→look m10 5 = .int .u64 (((t1).toNat:Int))→Mem.le S S8→HS ⟨S,[],w⟩ S8 w9 []→K3 (fr 45 m10) w9:=by
  clear H;intro S8 m10 w9 k12 q23 hle8 H
  refine hK3 _ _<|sr fun K17 hK17=>p_mv q23<|zaC (zbH (bo:=.and) (by simp) rfl rfl (zqA _ (4294967295:UInt64)))<|zaC (zhY u102 u133 rfl (zbG _))<|asI rfl<|xk hK17<|wp_ret ?_
  obtain rfl:=osi hF1
  refine e_1 rfl (ziX rfl) ?_
  exact⟨rfl,H.toExt⟩
 refine sr fun K4 hK4=>asI rfl<|xk hK4<|wp_block<|zbT fun m2 k2=>bn hE1 fun out1 hL1 hE2=>zjM (rg 5 37 []) (fun(s1:UInt64×Int) (m3:FM) (w1:World)=>∃(S1:Mem),look m3 5 = .int .u64 (((s1.1).toNat:Int))∧look m3 6 = .int .i64 (s1.2)∧Mem.le S S1∧HS ⟨S,[],w⟩ S1 w1 []) hL1 ⟨_,((k2 5).trans (k1 5)),(k2 6),(Mem.le_refl _),H⟩ ?_
 clear H;intro k4 s1 m3 w1 k3 hI1 o2 hb1 hh1;obtain⟨S1,q1,q2,hle1,H⟩:=hI1
 have q3:look m3 0 = .int .u64 (((x0).toNat:Int)):=(k3 0 rfl).trans ((k2 0).trans (k1 0))
 have q4:look m3 1 = .int .i64 (x1):=(k3 1 rfl).trans ((k2 1).trans (k1 1))
 refine wp_seq_k fun K5 hK5=>sr fun K6 hK6=>p_mv q2<|zaC (yvH rfl rfl)<|xk hK6 ?_
 refine zfJ hb1 rfl (fun hb1 hc1=>?_) fun hb1 hc1=>?_
 ·refine wp_skip ?_
  refine xn hK5<|wp_seq_k fun K7 hK7=>zbT fun m4 k5=>bn hb1 fun t2 hE3 hF2=>?_
  have J2:∀(S7:Mem) (m9:FM) (w8:World),Kp (5::7::8::9::10::rg 15 27 []) m9 m4→look m9 5 = .int .u64 (((t2).toNat:Int))→Mem.le S1 S7→HS ⟨S,[],w⟩ S7 w8 []→K7 (fr 45 m9) w8:=by
   clear H;intro S7 m9 w8 k11 q19 hle7 H
   have q20:=(k11 0 rfl).trans ((k5 0).trans q3)
   have q21:=(k11 1 rfl).trans ((k5 1).trans q4)
   have q22:=(k11 6 rfl).trans ((k5 6).trans q2)
   refine hK7 _ _<|wp_region_lit<|p_mv q22<|zaC (zoW rfl rfl)<|asI rfl<|wpList_nil<|zaJ ?_
   obtain rfl:=osi hF2
   exact⟨(t2,(w64 (s1.2-1))),_,rfl,(kS k11 rfl (kN k5 (kS k3 rfl kcx))),⟨_,q19,rfl,(Mem.le_trans hle1 hle7),H⟩,hh1⟩
  refine wp_block<|sr fun K8 hK8=>p_mv ((k5 5).trans q1)<|p_mv ((k5 6).trans q2)<|bn hE3 fun y1 e1 hE3=>zaC (ykU rfl rfl (Int.not_lt.2 (of_decide_eq_true (zdQ e1))) (ymF (1:UInt64) _))<|zaC (ziZ rfl rfl (zbR _))<|asI rfl<|xk hK8 ?_
  refine sr fun K9 hK9=>mvI rfl<|zaC (zbH (bo:=.and) (by simp) rfl rfl (zqA _ (65535:UInt64)))<|mvI rfl<|zaC (zqO rfl rfl (by decide) (zoF _ _))<|zaC (zbH (bo:=.and) (by simp) rfl rfl (zqA _ (65535:UInt64)))<|mvI rfl<|zaC (zqO rfl rfl (by decide) (zoF _ _)) ?_
  refine zxX (zfS (N:=3) (xs:=([((i64 (((s1.1).toNat:Int)+(((i64 (shlI .u64 1 s1.2))).toNat:Int)))&&&(65535:UInt64)),((i64 (shrI .u64 (((i64 (((s1.1).toNat:Int)+(((i64 (shlI .u64 1 s1.2))).toNat:Int)))).toNat:Int) 16))&&&(65535:UInt64)),(i64 (shrI .u64 (((i64 (((s1.1).toNat:Int)+(((i64 (shlI .u64 1 s1.2))).toNat:Int)))).toNat:Int) 32))]:List UInt64)) (RL.cons ysF (RL.cons ysF (RL.cons ysF RL.nil))) yrV H rfl rfl rfl) fun w2 v1 cs1 H g1=>?_
  refine p_as (v:=v1) rfl<|xk hK9<|sr fun K10 hK10=>zxX (zfS (N:=1) (xs:=([1]:List UInt64)) (RL.cons (xdY (x:=(1:UInt64)) rfl) RL.nil) yrV H rfl rfl rfl) fun w3 v2 cs2 H g2=>p_as (v:=v2) rfl<|xk hK10<|wp_seq_k fun K11 hK11=>?_
  obtain⟨S2,hle2,g3,H1⟩:=H.fixX (k:=0) rfl g2;clear H;have H:=H1;clear H1
  replace g1:=g1.mono hle2
  obtain⟨S3,hle3,g4,H1⟩:=H.fixX (k:=0) rfl g1;clear H;have H:=H1;clear H1
  replace g3:=g3.mono hle3
  refine zbT fun m5 k6=>bn hE3 fun t3 hE4 hF3=>?_
  have J1:∀(v5:Value) (S6:Mem) (m8:FM) (w6:World),Kp (9::10::rg 28 8 []) m8 m5→look m8 9=v5→Mem.le S3 S6→HS ⟨S,[],w⟩ S6 w6 []→RdS S6 v5 t3→K11 (fr 45 m8) w6:=by
   clear H;intro v5 S6 m8 w6 k10 q13 hle6 H g7
   replace g3:=g3.mono hle6
   replace g4:=g4.mono hle6
   have q14:=(k10 0 rfl).trans ((k6 0).trans ((k5 0).trans q3))
   have q15:=(k10 1 rfl).trans ((k6 1).trans ((k5 1).trans q4))
   have q16:=(k10 5 rfl).trans ((k6 5).trans ((k5 5).trans q1))
   have q17:=(k10 6 rfl).trans ((k6 6).trans ((k5 6).trans q2))
   have q18:look m8 7 = .int .u64 ((((i64 (((s1.1).toNat:Int)+(((i64 (shlI .u64 1 s1.2))).toNat:Int)))).toNat:Int)):=(k10 7 rfl).trans (k6 7)
   refine hK11 _ _<|sr fun K16 hK16=>p_mv (v:=v5) q13<|p_mv q14<|p_mv q15<|bn hF3 fun y3 e3 hF3=>zeX is157 rfl<|(yrY H.sub g7 e3).mono<|H.xe fun w7 H=>zaC (r_not (t:=(!y3)) rfl rfl) ?_
   refine xk hK16 ?_
   refine zfJ hF3 rfl (fun hF3 hc3=>?_) fun hF3 hc3=>?_
   ·refine wp_region_lit ?_
    refine p_mv q18<|asI rfl<|wpList_nil<|zdM<|zaJ ?_
    obtain rfl:=osi hF3
    exact J2 _ _ _ (kS k10 rfl (kN k6 kcx)) rfl (Mem.le_trans hle2 (Mem.le_trans hle3 hle6)) H
   ·refine wp_skip ?_
    refine zdM<|zaJ ?_
    obtain rfl:=osi hF3
    exact J2 _ _ _ (kS k10 rfl (kN k6 kcx)) q16 (Mem.le_trans hle2 (Mem.le_trans hle3 hle6)) H
  refine sr fun K12 hK12=>asI rfl<|xk hK12<|wp_block<|zbT fun m6 k7=>bn hE4 fun out2 hL2 hE5=>?_
  refine zjM (9::10::rg 28 8 []) (fun(s2:(List UInt64)×Int) (m7:FM) (w4:World)=>∃(S4:Mem) (v3:Value),look m7 9=v3∧look m7 10 = .int .i64 (s2.2)∧Mem.le S3 S4∧HS ⟨S,[],w⟩ S4 w4 []∧RdS S4 v3 s2.1) hL2 ⟨_,_,(show _=(v2:Value)from((k7 9).trans (k6 9))),(k7 10),(Mem.le_refl _),H,g3⟩ ?_
  clear H;intro k9 s2 m7 w4 k8 hI2 o5 hb2 hh2;obtain⟨S4,v3,q5,q6,hle4,H,g5⟩:=hI2
  replace g3:=g3.mono hle4
  replace g4:=g4.mono hle4
  have q7:=(k8 0 rfl).trans ((k7 0).trans ((k6 0).trans ((k5 0).trans q3)))
  have q8:=(k8 1 rfl).trans ((k7 1).trans ((k6 1).trans ((k5 1).trans q4)))
  have q9:=(k8 5 rfl).trans ((k7 5).trans ((k6 5).trans ((k5 5).trans q1)))
  have q10:=(k8 6 rfl).trans ((k7 6).trans ((k6 6).trans ((k5 6).trans q2)))
  have q11:look m7 7 = .int .u64 ((((i64 (((s1.1).toNat:Int)+(((i64 (shlI .u64 1 s1.2))).toNat:Int)))).toNat:Int)):=(k8 7 rfl).trans ((k7 7).trans (k6 7))
  have q12:look m7 8=v1:=(k8 8 rfl).trans ((k7 8).trans (k6 8))
  refine wp_seq_k fun K13 hK13=>sr fun K14 hK14=>p_mv q6<|p_mv q8<|zaC (zfP rfl rfl)<|xk hK14 ?_
  refine zfJ hb2 rfl (fun hb2 hc2=>?_) fun hb2 hc2=>?_
  ·refine wp_skip ?_
   refine xn hK13<|wp_seq_k fun K15 hK15=>wp_block<|wp_region_lit<|p_mv (v:=v3) q5<|p_mv (v:=v1) q12<|bn hb2 fun y2 e2 hb2=>zeX is156 rfl<|(yrS H.sub g5 g4 e2).mono<|H.ye fun w5 v4 S5 hle5 H g6=>?_
   replace g4:=g4.mono hle5
   replace g5:=g5.mono hle5
   refine p_as (v:=v4) rfl<|wpList_nil<|zdM<|xn hK15<|wp_region_lit<|p_mv q6<|zaC (zdS rfl rfl)<|asI rfl<|wpList_nil ?_
   refine zaJ ?_
   obtain rfl:=osi hb2
   exact⟨(y2,(w64 (s2.2+1))),_,rfl,(kS k8 rfl kcx),⟨_,_,rfl,rfl,(Mem.le_trans hle4 hle5),H,g6⟩,hh2⟩
  ·refine wp_exit ?_
   refine zaW<|zaW<|ziQ<|zaJ ?_
   obtain rfl:=osi hb2
   obtain rfl:=osi hh2
   obtain rfl:=osi hE5
   exact J1 _ _ _ _ (kS k8 rfl (kN k7 kcx)) (show _=(v3:Value)from q5) hle4 H g5
 ·refine wp_exit ?_
  refine zaW<|zaW<|ziQ<|zaJ ?_
  obtain rfl:=osi hb1
  obtain rfl:=osi hh1
  obtain rfl:=osi hE2
  exact J3 _ _ _ (kS k3 rfl (kN k2 kcx)) q1 hle1 H
def ykB(s1:UInt64×(List UInt64))(s2:Bool×Int):Option ((Bool×Int)⊕(Bool)):=
  bif decide (s2.2<((s1.2).length:Int))then(Option.bind (bif s2.1 then(Option.bind (idx s1.2 s2.2) fun y1=>Option.bind (chk (decide (((y1).toNat:Int)≠0))) fun _y2=>some (((((i64 (Int.tmod ((s1.1).toNat:Int) ((y1).toNat:Int)))).toNat:Int) != 0)))else(some (false))) (fun t4=>some (.inl ((t4,(w64 (s2.2+1)))))))else(some (.inr (s2.1)))
def ykG(x0:Int)(s1:UInt64×(List UInt64)):Option ((UInt64×(List UInt64))⊕((List UInt64))):=
  bif decide (((s1.2).length:Int)<x0)then(Option.bind (Option.bind (Option.bind (iter (ykB s1) ((true,0))) (fun e=>some (e))) (fun t3=>bif t3 then(Option.bind (app s1.2 ([s1.1]:List UInt64)) fun y3=>some (y3))else(some (s1.2)))) (fun t2=>some (.inl (((i64 (((s1.1).toNat:Int)+1)),t2)))))else(some (.inr (s1.2)))
def znZ(x0:Int):Option ((List UInt64)):=
  Option.bind (Option.bind (iter (ykG x0) (((2:UInt64),([]:List UInt64)))) (fun e=>some (e))) (fun t1=>some (t1))
theorem ycF (hS : Sub S w) {x0 : Int} {r : (List UInt64)} (hF : znZ x0 = some r) :
    Calls Tryz.prog 119 #[.int .i64 (x0)] w fun e w'=>Ext w w'∧∃(v0':Value),e = .returned (v0')∧RdS (gr S w w') v0' r:=by
 refine enter (n:=36) Tryz.func119 rfl rfl rfl ?_
 have H:=HS.start hS
 refine sr fun K1 hK1=>asN rfl<|xk hK1<|sr fun K2 hK2=>?_
 have g1:RL S ([]:LV) ([]:List UInt64):=RL.nil
 refine zxE (zlW (N:=0) (vals:=[]) (l:=([]:LV)) yrV H rfl rfl rfl g1.len) fun w1 v1 H=>p_as (v:=v1) rfl<|xk hK2<|wp_seq_k fun K3 hK3=>zbT fun m1 k1=>bn hF fun t1 hE1 hF1=>?_
 have J4:∀(v6:Value) (cs7 rs4:LV) (m12:FM) (w9:World),Kp (3::4::5::6::rg 8 27 []) m12 m1→look m12 3=v6→HS ⟨S,[],w⟩ S w9 [.osl (v6) (t1).length 1 cs7 rs4 102]→RL S cs7 t1→K3 (fr 36 m12) w9:=by
  clear H;intro v6 cs7 rs4 m12 w9 k14 q21 H g6
  refine hK3 _ _<|sr fun K16 hK16=>p_mv (v:=v6) q21<|p_as (v:=v6) rfl<|xk hK16<|wp_ret ?_
  obtain⟨S1,hle1,g7,H1⟩:=H.fixX (k:=0) rfl g6;clear H;have H:=H1;clear H1
  replace H:=hsn H
  obtain rfl:=osi hF1
  refine e_1 rfl (ziX rfl) ?_
  exact⟨H.toExt,_,rfl,RdS.mono g7 H.gr⟩
 refine sr fun K4 hK4=>asI rfl<|xk hK4<|wp_block<|zbT fun m2 k2=>bn hE1 fun out1 hL1 hE2=>?_
 refine zjM (3::4::5::6::rg 8 27 []) (fun(s1:UInt64×(List UInt64)) (m3:FM) (w2:World)=>∃(v2:Value) (cs2 rs1:LV),look m3 3=v2∧look m3 4 = .int .u64 (((s1.1).toNat:Int))∧HS ⟨S,[],w⟩ S w2 [.osl (v2) (s1.2).length 1 cs2 rs1 102]∧RL S cs2 s1.2) hL1 ⟨_,_,_,(show _=(v1:Value)from((k2 3).trans (k1 3))),(k2 4),H,g1⟩ ?_
 clear H;intro k4 s1 m3 w2 k3 hI1 o2 hb1 hh1;obtain⟨v2,cs2,rs1,q1,q2,H,g2⟩:=hI1
 have q3:look m3 0 = .int .i64 (x0):=(k3 0 rfl).trans ((k2 0).trans (k1 0))
 refine wp_seq_k fun K5 hK5=>sr fun K6 hK6=>p_mv (v:=v2) q1<|zaC (zwZ u152 rfl H (k:=0) rfl rfl)<|p_mv q3<|zaC (zfP rfl rfl)<|xk hK6 ?_
 refine zfJ hb1 rfl (fun hb1 hc1=>?_) fun hb1 hc1=>?_
 ·refine wp_skip ?_
  refine xn hK5<|wp_seq_k fun K7 hK7=>zbT fun m4 k5=>bn hb1 fun t2 hE3 hF2=>?_
  have J3:∀(v5:Value) (cs6 rs3:LV) (m11:FM) (w8:World),Kp (3::5::6::rg 14 21 []) m11 m4→look m11 3=v5→HS ⟨S,[],w⟩ S w8 [.osl (v5) (t2).length 1 cs6 rs3 102]→RL S cs6 t2→K7 (fr 36 m11) w8:=by
   clear H;intro v5 cs6 rs3 m11 w8 k13 q18 H g5
   have q19:=(k13 0 rfl).trans ((k5 0).trans q3)
   have q20:=(k13 4 rfl).trans ((k5 4).trans q2)
   refine hK7 _ _<|wp_region_lit<|p_mv q20<|zaC (ziZ rfl rfl (zbR _))<|asI rfl<|wpList_nil<|zaJ ?_
   obtain rfl:=osi hF2
   exact⟨((i64 (((s1.1).toNat:Int)+1)),t2),_,rfl,(kS k13 rfl (kN k5 (kS k3 rfl kcx))),⟨_,_,_,(show _=(v5:Value)from q18),rfl,H,g5⟩,hh1⟩
  refine wp_block<|sr fun K8 hK8=>asB rfl<|xk hK8<|wp_seq_k fun K9 hK9=>zbT fun m5 k6=>bn hE3 fun t3 hE4 hF3=>?_
  have J2:∀(m10:FM) (w5:World),Kp (5::6::rg 14 16 []) m10 m5→look m10 5 = .bool (t3)→HS ⟨S,[],w⟩ S w5 [.osl (v2) (s1.2).length 1 cs2 rs1 102]→K9 (fr 36 m10) w5:=by
   clear H;intro m10 w5 k12 q14 H
   have q15:=(k12 0 rfl).trans ((k6 0).trans ((k5 0).trans q3))
   have q16:=(k12 3 rfl).trans ((k6 3).trans ((k5 3).trans q1))
   have q17:=(k12 4 rfl).trans ((k6 4).trans ((k5 4).trans q2))
   refine hK9 _ _<|sr fun K15 hK15=>p_mv q14<|xk hK15 ?_
   refine zfJ hF3 rfl (fun hF3 hc3=>?_) fun hF3 hc3=>?_
   ·refine wp_region_lit ?_
    refine p_mv (v:=v2) q16<|p_mv q17<|zxX (zfS (N:=1) (xs:=([s1.1]:List UInt64)) (RL.cons ysF RL.nil) yrV H rfl rfl rfl) fun w6 v3 cs4 H g3=>bn hF3 fun y3 e3 hF3=>zvI (zgF (k:=1) (v2:=v3) yrV rfl H rfl rfl g2 rfl (H.slW (k:=0) rfl) g3 e3) fun w7 v4 cs5 rs2 H g4=>?_
    replace H:=H.sel [1] rfl
    replace H:=hsn H
    refine p_as (v:=v4) rfl<|wpList_nil<|zdM<|zaJ ?_
    obtain rfl:=osi hF3
    exact J3 _ _ _ _ _ (kS k12 rfl (kN k6 kcx)) rfl H g4
   ·refine wp_skip ?_
    refine zdM<|zaJ ?_
    obtain rfl:=osi hF3
    exact J3 _ _ _ _ _ (kS k12 rfl (kN k6 kcx)) (show _=(v2:Value)from q16) H g2
  refine sr fun K10 hK10=>asI rfl<|xk hK10<|wp_block<|zbT fun m6 k7=>bn hE4 fun out2 hL2 hE5=>zjM (5::6::rg 14 16 []) (fun(s2:Bool×Int) (m7:FM) (w3:World)=>look m7 5 = .bool (s2.1)∧look m7 6 = .int .i64 (s2.2)∧HS ⟨S,[],w⟩ S w3 [.osl (v2) (s1.2).length 1 cs2 rs1 102]) hL2 ⟨((k7 5).trans (k6 5)),(k7 6),H⟩ ?_
  clear H;intro k9 s2 m7 w3 k8 hI2 o5 hb2 hh2;obtain⟨q4,q5,H⟩:=hI2
  have q6:=(k8 0 rfl).trans ((k7 0).trans ((k6 0).trans ((k5 0).trans q3)))
  have q7:=(k8 3 rfl).trans ((k7 3).trans ((k6 3).trans ((k5 3).trans q1)))
  have q8:=(k8 4 rfl).trans ((k7 4).trans ((k6 4).trans ((k5 4).trans q2)))
  refine wp_seq_k fun K11 hK11=>sr fun K12 hK12=>p_mv q5<|p_mv (v:=v2) q7<|zaC (zwZ u152 rfl H (k:=0) rfl rfl)<|zaC (zfP rfl rfl)<|xk hK12 ?_
  refine zfJ hb2 rfl (fun hb2 hc2=>?_) fun hb2 hc2=>?_
  ·refine wp_skip ?_
   refine xn hK11<|wp_seq_k fun K13 hK13=>wp_block<|wp_region_lit<|p_mv q4<|mvB rfl<|nameL fun m8 k10=>gs_at 8 fun K14 hK14 R2 hR2=>bn hb2 fun t4 hE6 hF4=>?_
   have J1:∀(m9:FM) (w4:World),Kp (rg 22 8 []) m9 m8→look m9 29 = .bool (t4)→HS ⟨S,[],w⟩ S w4 [.osl (v2) (s1.2).length 1 cs2 rs1 102]→K14 m9 w4:=by
    clear H;intro m9 w4 k11 q9 H
    have q10:=(k11 0 rfl).trans ((k10 0).trans q6)
    have q11:=(k11 3 rfl).trans ((k10 3).trans q7)
    have q12:=(k11 4 rfl).trans ((k10 4).trans q8)
    have q13:=(k11 6 rfl).trans ((k10 6).trans q5)
    refine hK14 _ _<|p_as q9<|wpList_nil<|zdM<|xn hK13<|wp_region_lit<|p_mv q13<|zaC (zdS rfl rfl)<|asI rfl ?_
    refine wpList_nil<|zaJ ?_
    obtain rfl:=osi hF4
    exact⟨(t4,(w64 (s2.2+1))),_,rfl,(kS k11 rfl (kN k10 (kS k8 rfl kcx))),⟨rfl,rfl,H⟩,hh2⟩
   refine p_gs (j:=1) (ziU rfl rfl (k10 21)) (fun hb3=>?_) (fun hb3=>?_)
   ·replace hE6:=yyS hE6 hb3
    refine zwL (ziU rfl rfl (k10 21)) hb3<|p_mv ((k10 4).trans q8)<|zwL (ziU rfl rfl (k10 21)) hb3<|p_mv (v:=v2) ((k10 3).trans q7)<|zwL (ziU rfl rfl (k10 21)) hb3<|p_mv ((k10 6).trans q5)<|zwL (ziU rfl rfl (k10 21)) hb3<|bn hE6 fun y1 e1 hE6=>?_
    obtain⟨b1,c1,hv1⟩:=H.ownAt (k:=0) rfl (zbB e1)
    refine zaC (zaP (i:=(s2.2:Int).toNat) u152 zsI rfl hv1 rfl (zaB e1).1 (zbB e1)) ?_
    subst hv1
    refine zwL (ziU rfl rfl (k10 21)) hb3 ?_
    have hr1:=RL.get g2 (zaB e1).2;generalize hghr1:piece cs2 _ _=cs3 at hr1
    obtain rfl:=ykQ hr1
    refine zaC (ziO (v:=.int .u64 (((y1).toNat:Int))) yjH H (k:=0) rfl rfl (zbB e1) hghr1)<|zwL (ziU rfl rfl (k10 21)) hb3<|bn hE6 fun y2 e2 hE6=>zaC (xbX (r:=(((i64 (Int.tmod ((s1.1).toNat:Int) ((y1).toNat:Int)))).toNat:Int)) rfl rfl (of_decide_eq_true (zdQ e2)) (yuK _ _ (by omega)))<|zwL (ziU rfl rfl (k10 21)) hb3<|zaC (yoG rfl rfl) ?_
    refine zaC (ymE (v:=.bool (((((i64 (Int.tmod ((s1.1).toNat:Int) ((y1).toNat:Int)))).toNat:Int) != 0))) (k10 21) hb3 rfl)<|hR2 _ _ ?_
    obtain rfl:=osi hE6
    exact J1 _ _ kcx rfl H
   ·replace hE6:=yyW hE6 hb3
    refine zwT (ziU rfl rfl (k10 21)) hb3 ?_
    rw[zkA]
    refine zwT (ziU rfl rfl (k10 21)) hb3 ?_
    rw[zkA]
    refine zwT (ziU rfl rfl (k10 21)) hb3 ?_
    rw[zkA]
    refine zwT (ziU rfl rfl (k10 21)) hb3 ?_
    rw[zkA]
    refine zwT (ziU rfl rfl (k10 21)) hb3 ?_
    rw[zkA]
    refine zwT (ziU rfl rfl (k10 21)) hb3 ?_
    rw[zkA]
    refine zwT (ziU rfl rfl (k10 21)) hb3 ?_
    rw[zkA]
    refine zaC (ymW (v:=.bool (false)) (k10 21) hb3 rfl)<|hR2 _ _ ?_
    obtain rfl:=osi hE6
    exact J1 _ _ kcx rfl H
  ·refine wp_exit ?_
   refine zaW<|zaW<|ziQ<|zaJ ?_
   obtain rfl:=osi hb2
   obtain rfl:=osi hh2
   obtain rfl:=osi hE5
   exact J2 _ _ (kS k8 rfl (kN k7 kcx)) q4 H
 ·refine wp_exit ?_
  refine zaW<|zaW<|ziQ<|zaJ ?_
  obtain rfl:=osi hb1
  obtain rfl:=osi hh1
  obtain rfl:=osi hE2
  exact J4 _ _ _ _ _ (kS k3 rfl (kN k2 kcx)) (show _=(v2:Value)from q1) H g2
def zdR(x0:UInt32)(x1:Int):Option (UInt32):=
  Option.bind (chk (decide (0≤x1))) fun _y1=>Option.bind (chk (decide (0≤(w64 ((32:Int)-x1))))) fun _y2=>some (((i32 (shrI .u32 ((x0).toNat:Int) x1))|||(i32 (shlI .u32 ((x0).toNat:Int) (w64 ((32:Int)-x1))))))
theorem zlV (hS : Sub S w) {x0 : UInt32} {x1 : Int} {r : UInt32} (hF : zdR x0 x1 = some r) :
    Calls Tryz.prog 158 #[.int .u32 (((x0).toNat:Int)),.int .i64 (x1)] w fun e w'=>e = .returned (.int .u32 (((r).toNat:Int)))∧Ext w w':=by
 refine enter (n:=13) Tryz.func158 rfl rfl rfl ?_
 have H:=HS.start hS
 refine sr fun K1 hK1=>asI rfl<|xk hK1<|wp_seq_k fun K2 hK2=>bn hF fun y1 e1 hF=>bn hF fun y2 e2 hF=>wrS H 8 [] fun vs1 H=>?_
 refine tp (zaE (v:=.int .u32 (((x0).toNat:Int))) rfl)<|tp (zaE (v:=.int .i64 (x1)) rfl)<|tp (zqO rfl rfl (Int.not_lt.2 (of_decide_eq_true (zdQ e1))) (zpV _ _))<|tp (zaE (v:=.int .u32 (((x0).toNat:Int))) rfl)<|tp (zaE (v:=.int .i64 (x1)) rfl)<|tp (zoW rfl rfl)<|tp (ykU rfl rfl (Int.not_lt.2 (of_decide_eq_true (zdQ e2))) (zxS _ _)) ?_
 refine tp (zbH (bo:=.or) (by simp) rfl rfl (yeK _ _))<|zmR<|H.tn fun w1 H=>asI rfl<|wpList_nil<|zdC<|xn hK2<|wp_ret ?_
 obtain rfl:=osi hF
 refine e_1 rfl (ziX rfl) ?_
 exact⟨rfl,H.toExt⟩
def ziV(x0:UInt32):Option (Bs):=
  some (([(i8 (((i32 (shrI .u32 ((x0).toNat:Int) 24))).toNat:Int)),(i8 (((i32 (shrI .u32 ((x0).toNat:Int) 16))).toNat:Int)),(i8 (((i32 (shrI .u32 ((x0).toNat:Int) 8))).toNat:Int)),(i8 ((x0).toNat:Int))]:Bs))
theorem yaH (hS : Sub S w) {x0 : UInt32} {r : Bs} (hF : ziV x0 = some r) :
    Calls Tryz.prog 95 #[.int .u32 x0.I] w fun e w'=>Ext w w'∧∃(v0':Value),e = .returned (v0')∧RdS (gr S w w') v0' r:=by
 refine enter (n:=15) Tryz.func95 rfl rfl rfl ?_
 have H:=HS.start hS
 refine sr fun K1 hK1=>asN rfl<|xk hK1<|sr fun K2 hK2=>mvI rfl<|zaC (zqO rfl rfl (by decide) (zpV _ _))<|zaC (zhY u133 u5 rfl (zrP _))<|mvI rfl<|zaC (zqO rfl rfl (by decide) (zpV _ _)) ?_
 refine zaC (zhY u133 u5 rfl (zrP _))<|mvI rfl<|zaC (zqO rfl rfl (by decide) (zpV _ _))<|zaC (zhY u133 u5 rfl (zrP _))<|mvI rfl<|zaC (zhY u133 u5 rfl (zrP _)) ?_
 refine zxX (zfS (N:=4) (xs:=([(i8 ((i32 (shrI .u32 x0.I 24))).I),(i8 ((i32 (shrI .u32 x0.I 16))).I),(i8 ((i32 (shrI .u32 x0.I 8))).I),(i8 x0.I)]:Bs)) (RL.cons rpU8 (RL.cons rpU8 (RL.cons rpU8 (RL.cons rpU8 RL.nil)))) znF H rfl rfl rfl) fun w1 v1 cs1 H g1=>p_as (v:=v1) rfl<|xk hK2 ?_
 refine wp_ret ?_
 obtain⟨S1,hle1,g2,H1⟩:=H.fixX (k:=0) rfl g1;clear H;have H:=H1;clear H1
 replace H:=hsn H
 obtain rfl:=osi hF
 refine e_1 rfl (ziX rfl) ?_
 exact⟨H.toExt,_,rfl,RdS.mono g2 H.gr⟩
def yjM(s1:Bs):Option ((Bs)⊕(Bs)):=
  bif((Int.tmod ((s1).length:Int) 64) != 56)then(Option.bind (app s1 ([0]:Bs)) fun y2=>some (.inl (y2)))else(some (.inr (s1)))
def ykC(y8:(List UInt64))(s2:Int×(List UInt32)):Option ((Int×(List UInt32))⊕((List UInt32))):=
  bif decide (s2.1<8)then(Option.bind (idx y8 s2.1) fun y9=>Option.bind (zqT y9 2) fun y10=>Option.bind (idx s2.2 s2.1) fun _y11=>Option.bind (setL s2.2 (s2.1:Int) y10) fun y12=>some (.inl (((w64 (s2.1+1)),y12))))else(some (.inr (s2.2)))
def zwV(y6:Bs)(s3:Int×(List UInt32))(s4:Int×(List UInt32)):Option ((Int×(List UInt32))⊕((List UInt32))):=
  bif decide (s4.1<16)then(Option.bind (idx y6 (w64 (s3.1+(w64 ((4:Int)*s4.1))))) fun y14=>Option.bind (idx y6 (w64 ((w64 (s3.1+(w64 ((4:Int)*s4.1))))+1))) fun y15=>Option.bind (idx y6 (w64 ((w64 (s3.1+(w64 ((4:Int)*s4.1))))+2))) fun y16=>Option.bind (idx y6 (w64 ((w64 (s3.1+(w64 ((4:Int)*s4.1))))+3))) fun y17=>Option.bind (idx s4.2 s4.1) fun _y18=>Option.bind (setL s4.2 (s4.1:Int) ((((i32 (shlI .u32 (((i32 ((y14).toNat:Int))).toNat:Int) 24))|||(i32 (shlI .u32 (((i32 ((y15).toNat:Int))).toNat:Int) 16)))|||(i32 (shlI .u32 (((i32 ((y16).toNat:Int))).toNat:Int) 8)))|||(i32 ((y17).toNat:Int)))) fun y19=>some (.inl (((w64 (s4.1+1)),y19))))else(some (.inr (s4.2)))
def zxJ(s5:Int×(List UInt32)):Option ((Int×(List UInt32))⊕((List UInt32))):=
  bif decide (s5.1<64)then(Option.bind (idx s5.2 (w64 (s5.1-15))) fun y20=>Option.bind (idx s5.2 (w64 (s5.1-2))) fun y21=>Option.bind (idx s5.2 (w64 (s5.1-16))) fun y22=>Option.bind (zdR y20 7) fun y23=>Option.bind (zdR y20 18) fun y24=>Option.bind (idx s5.2 (w64 (s5.1-7))) fun y25=>Option.bind (zdR y21 17) fun y26=>Option.bind (zdR y21 19) fun y27=>Option.bind (idx s5.2 s5.1) fun _y28=>Option.bind (setL s5.2 (s5.1:Int) (i32 ((((i32 ((((i32 (((y22).toNat:Int)+((((y23^^^y24)^^^(i32 (shrI .u32 ((y20).toNat:Int) 3)))).toNat:Int)))).toNat:Int)+((y25).toNat:Int)))).toNat:Int)+((((y26^^^y27)^^^(i32 (shrI .u32 ((y21).toNat:Int) 10)))).toNat:Int)))) fun y29=>some (.inl (((w64 (s5.1+1)),y29))))else(some (.inr (s5.2)))
def zwJ(x1:List UInt32)(t6:(List UInt32))(s6:(List UInt32)×Int):Option (((List UInt32)×Int)⊕((List UInt32))):=
  bif decide (s6.2<64)then(Option.bind (idx s6.1 4) fun y31=>Option.bind (idx s6.1 0) fun y32=>Option.bind (idx s6.1 7) fun y33=>Option.bind (zdR y31 6) fun y34=>Option.bind (zdR y31 11) fun y35=>Option.bind (zdR y31 25) fun y36=>Option.bind (idx s6.1 5) fun y37=>Option.bind (idx s6.1 6) fun y38=>Option.bind (idx x1 s6.2) fun y39=>Option.bind (idx t6 s6.2) fun y40=>Option.bind (zdR y32 2) fun y41=>Option.bind (zdR y32 13) fun y42=>Option.bind (zdR y32 22) fun y43=>Option.bind (idx s6.1 1) fun y44=>Option.bind (idx s6.1 2) fun y45=>Option.bind (idx s6.1 1) fun y46=>Option.bind (idx s6.1 2) fun y47=>Option.bind (idx s6.1 0) fun y48=>Option.bind (idx s6.1 1) fun y49=>Option.bind (idx s6.1 2) fun y50=>Option.bind (idx s6.1 3) fun y51=>Option.bind (idx s6.1 4) fun y52=>Option.bind (idx s6.1 5) fun y53=>Option.bind (idx s6.1 6) fun y54=>some (.inl ((([(i32 ((((i32 ((((i32 ((((i32 ((((i32 (((y33).toNat:Int)+((((y34^^^y35)^^^y36)).toNat:Int)))).toNat:Int)+((((y31&&&y37)^^^(((4294967295:UInt32)^^^y31)&&&y38))).toNat:Int)))).toNat:Int)+((y39).toNat:Int)))).toNat:Int)+((y40).toNat:Int)))).toNat:Int)+(((i32 (((((y41^^^y42)^^^y43)).toNat:Int)+(((((y32&&&y44)^^^(y32&&&y45))^^^(y46&&&y47))).toNat:Int)))).toNat:Int))),y48,y49,y50,(i32 (((y51).toNat:Int)+(((i32 ((((i32 ((((i32 ((((i32 (((y33).toNat:Int)+((((y34^^^y35)^^^y36)).toNat:Int)))).toNat:Int)+((((y31&&&y37)^^^(((4294967295:UInt32)^^^y31)&&&y38))).toNat:Int)))).toNat:Int)+((y39).toNat:Int)))).toNat:Int)+((y40).toNat:Int)))).toNat:Int))),y52,y53,y54]:List UInt32),(w64 (s6.2+1))))))else(some (.inr (s6.1)))
def ykJ(t7:(List UInt32))(s7:Int×(List UInt32)):Option ((Int×(List UInt32))⊕((List UInt32))):=
  bif decide (s7.1<8)then(Option.bind (idx s7.2 s7.1) fun y55=>Option.bind (idx t7 s7.1) fun y56=>Option.bind (idx s7.2 s7.1) fun _y57=>Option.bind (setL s7.2 (s7.1:Int) (i32 (((y55).toNat:Int)+((y56).toNat:Int)))) fun y58=>some (.inl (((w64 (s7.1+1)),y58))))else(some (.inr (s7.2)))
def zvV(x1:List UInt32)(y6:Bs)(s3:Int×(List UInt32)):Option ((Int×(List UInt32))⊕((List UInt32))):=
  bif decide (s3.1<((y6).length:Int))then(Option.bind (Option.bind (mkL 64 (0:UInt32)) fun y13=>Option.bind (Option.bind (iter (zwV y6 s3) ((0,y13))) (fun e=>some (e))) (fun t5=>Option.bind (Option.bind (iter (zxJ) ((16,t5))) (fun e=>some (e))) (fun t6=>Option.bind (app ([]:List UInt32) s3.2) fun y30=>Option.bind (Option.bind (iter (zwJ x1 t6) ((y30,0))) (fun e=>some (e))) (fun t7=>Option.bind (iter (ykJ t7) ((0,s3.2))) (fun e=>some (e)))))) (fun t4=>some (.inl (((w64 (s3.1+64)),t4)))))else(some (.inr (s3.2)))
def zwP(t3:(List UInt32))(s8:Int×Bs):Option ((Int×Bs)⊕(Bs)):=
  bif decide (s8.1<8)then(Option.bind (idx t3 s8.1) fun y59=>Option.bind (ziV y59) fun y60=>Option.bind (app s8.2 y60) fun y61=>some (.inl (((w64 (s8.1+1)),y61))))else(some (.inr (s8.2)))
def zqZ(x0:Bs)(x1:List UInt32):Option (Bs):=
  Option.bind (app x0 ([128]:Bs)) fun y1=>Option.bind (Option.bind (iter (yjM) (y1)) (fun e=>some (e))) (fun t1=>Option.bind (ziV (i32 (((i64 (shrI .u64 (((i64 ((8:Int)*(((i64 ((x0).length:Int))).toNat:Int)))).toNat:Int) 32))).toNat:Int))) fun y3=>Option.bind (app t1 y3) fun y4=>Option.bind (ziV (i32 ((((i64 ((8:Int)*(((i64 ((x0).length:Int))).toNat:Int)))&&&(4294967295:UInt64))).toNat:Int))) fun y5=>Option.bind (app y4 y5) fun y6=>Option.bind (mkL 8 (0:UInt32)) fun y7=>Option.bind (znZ 8) fun y8=>Option.bind (Option.bind (iter (ykC y8) ((0,y7))) (fun e=>some (e))) (fun t2=>Option.bind (Option.bind (iter (zvV x1 y6) ((0,t2))) (fun e=>some (e))) (fun t3=>Option.bind (Option.bind (iter (zwP t3) ((0,([]:Bs)))) (fun e=>some (e))) (fun t8=>some (t8)))))
set_option maxRecDepth 100000 in
set_option maxHeartbeats 8000000 in
theorem yfR (hS : Sub S w) {x0 : Bs} {v1_ : Value} {x1 : List UInt32} (h1_ : RdS S v1_ x1) {r : Bs} (hF : zqZ x0 x1 = some r) :
    Calls Tryz.prog 121 #[str (x0),v1_] w fun e w'=>e = .returned (str (r))∧Ext w w':=by
 refine enter (n:=291) Tryz.func121 rfl rfl rfl ?_
 have H:=HS.start hS
 refine sr fun K1 hK1=>asT rfl<|xk hK1<|sr fun K2 hK2=>mvT rfl<|zxE (yhI (l:=x0) u9 u100 u5 H rfl) ?_;clear H;rintro w1 v1 ⟨rs1,H⟩
 have g1:RL S (u8s x0) x0:=RL.of_u8s _
 refine zxX (zfS (N:=1) (xs:=([128]:Bs)) (RL.cons (ylO (x:=(128:UInt8)) rfl) RL.nil) znF H rfl rfl rfl) fun w2 v2 cs1 H g2=>bn hF fun y1 e1 hF=>zvI (zgF (k:=1) (v2:=v2) znF rfl H rfl rfl g1 rfl (H.slW (k:=0) rfl) g2 e1) fun w3 v3 cs2 rs2 H g3=>?_
 replace H:=H.sel [1] rfl
 replace H:=hsn H
 refine p_as (v:=v3) rfl<|xk hK2<|wp_seq_k fun K3 hK3=>zbT fun m1 k1=>bn hF fun t1 hE1 hF1=>?_
 have J8:∀(v7:Value) (cs6 rs5:LV) (m4:FM) (w7:World),Kp (5::rg 30 7 []) m4 m1→look m4 5=v7→HS ⟨S,[],w⟩ S w7 [.osl (v7) (t1).length 1 cs6 rs5 5]→RL S cs6 t1→K3 (fr 291 m4) w7:=by
  clear H;intro v7 cs6 rs5 m4 w7 k5 q4 H g7
  have q5:look m4 0=str (x0):=(k5 0 rfl).trans (k1 0)
  have q6:look m4 1=v1_:=(k5 1 rfl).trans (k1 1)
  refine hK3 _ _<|sr fun K6 hK6=>p_mv q5<|zaC (zqM (N:=(x0).length) u9 rfl rfl)<|zaC (zhY u3 u102 rfl (zbR _))<|zaC (ydJ rfl rfl (zbR _))<|asI rfl<|xk hK6<|sr fun K7 hK7=>?_
  refine p_mv (v:=v7) q4<|mvI rfl<|zaC (zqO rfl rfl (by decide) (zoF _ _))<|zaC (zhY u102 u133 rfl (zbG _))<|bn hF1 fun y3 e3 hF1=>zeX is95 rfl<|(yaH H.sub e3).mono<|H.ye fun w8 v8 S1 hle1 H g8=>?_
  replace h1_:=h1_.mono hle1
  replace g7:=g7.mono hle1
  refine bn hF1 fun y4 e4 hF1=>?_
  obtain⟨_,hw1,hw1r⟩:=g8
  refine zvI (zgF (k:=0) (v2:=v8) znF rfl H rfl rfl g7 rfl (SlS.w hw1 H.sub) hw1r e4) fun w9 v9 cs7 rs6 H g9=>p_as (v:=v9) rfl<|xk hK7<|sr fun K8 hK8=>p_mv (v:=v9) rfl<|mvI rfl<|zaC (zbH (bo:=.and) (by simp) rfl rfl (zqA _ (4294967295:UInt64)))<|zaC (zhY u102 u133 rfl (zbG _))<|bn hF1 fun y5 e5 hF1=>?_
  refine zeX is95 rfl<|(yaH H.sub e5).mono<|H.ye fun w10 v10 S2 hle2 H g10=>?_
  replace h1_:=h1_.mono hle2
  replace g9:=g9.mono hle2
  refine bn hF1 fun y6 e6 hF1=>?_
  obtain⟨_,hw2,hw2r⟩:=g10
  refine zvI (zgF (k:=0) (v2:=v10) znF rfl H rfl rfl g9 rfl (SlS.w hw2 H.sub) hw2r e6) fun w11 v11 cs8 rs7 H g11=>p_as (v:=v11) rfl<|xk hK8<|sr fun K9 hK9=>bn hF1 fun y7 e7 hF1=>zvI (yhM (zx:=(0:UInt32)) ykF rfl H rfl rfl (xcT (x:=(0:UInt32)) rfl) e7 (Int.le_refl _) (yaB e7).2.1) fun w12 v12 cs9 rs8 H g12=>p_as (v:=v12) rfl<|xk hK9<|sr fun K10 hK10=>?_
  refine bn hF1 fun y8 e8 hF1=>zeX is119 rfl<|(ycF H.sub e8).mono<|H.ye fun w13 v13 S3 hle3 H g13=>?_
  replace h1_:=h1_.mono hle3
  replace g11:=g11.mono hle3
  replace g12:=g12.mono hle3
  refine p_as (v:=v13) rfl<|xk hK10<|wp_seq_k fun K11 hK11=>zbT fun m5 k6=>bn hF1 fun t2 hE3 hF2=>?_
  have J7:∀(cs13 rs10:LV) (m8:FM) (w17:World),Kp (9::rg 55 12 []) m8 m5→HS ⟨S,[],w⟩ S3 w17 [.osl (v12) (t2).length 1 cs13 rs10 133,.osl (v11) (y6).length 1 cs8 rs7 5]→RL S3 cs13 t2→K11 (fr 291 m8) w17:=by
   clear H;intro cs13 rs10 m8 w17 k10 H g16
   have q12:=(k10 1 rfl).trans ((k6 1).trans q6)
   have q13:look m8 5=v11:=(k10 5 rfl).trans (k6 5)
   have q14:look m8 7=v12:=(k10 7 rfl).trans (k6 7)
   refine hK11 _ _<|wp_seq_k fun K16 hK16=>zbT fun m9 k11=>bn hF2 fun t3 hE5 hF3=>?_
   have J6:∀(cs56 rs20:LV) (S10:Mem) (m28:FM) (w42:World),Kp (rg 10 14 (rg 67 210 [])) m28 m9→Mem.le S3 S10→HS ⟨S,[],w⟩ S10 w42 [.osl (v12) (t3).length 1 cs56 rs20 133,.osl (v11) (y6).length 1 cs8 rs7 5]→RL S10 cs56 t3→K16 (fr 291 m28) w42:=by
    clear H;intro cs56 rs20 S10 m28 w42 k35 hle10 H g35
    replace h1_:=h1_.mono hle10
    replace g11:=g11.mono hle10
    replace g13:=g13.mono hle10
    have q63:=(k35 7 rfl).trans ((k11 7).trans q14)
    refine hK16 _ _<|sr fun K47 hK47=>?_
    have g36:RL S10 ([]:LV) ([]:Bs):=RL.nil
    refine zxE (zlW (N:=0) (vals:=[]) (l:=([]:LV)) znF H rfl rfl rfl g36.len) fun w43 v30 H=>p_as (v:=v30) rfl<|xk hK47<|wp_seq_k fun K48 hK48=>zbT fun m29 k36=>bn hF3 fun t8 hE15 hF8=>?_
    have J5:∀(v34:Value) (cs61 rs23:LV) (S13:Mem) (m32:FM) (w47:World),Kp (24::25::rg 278 11 []) m32 m29→look m32 24=v34→Mem.le S10 S13→HS ⟨S,[],w⟩ S13 w47 [.osl (v34) (t8).length 1 cs61 rs23 5,.osl (v12) (t3).length 1 cs56 rs20 133,.osl (v11) (y6).length 1 cs8 rs7 5]→RL S13 cs61 t8→K48 (fr 291 m32) w47:=by
     clear H;intro v34 cs61 rs23 S13 m32 w47 k40 q67 hle13 H g40
     replace h1_:=h1_.mono hle13
     replace g11:=g11.mono hle13
     replace g13:=g13.mono hle13
     replace g35:=g35.mono hle13
     refine hK48 _ _<|sr fun K53 hK53=>p_mv (v:=v34) q67<|zaC (ykN u100 u5 u9 rfl H (k:=0) rfl g40)<|asT rfl<|xk hK53<|wp_ret ?_
     obtain rfl:=osi hF8
     refine e_1 rfl (ziX rfl) ?_
     exact⟨rfl,H.toExt⟩
    refine sr fun K49 hK49=>asI rfl<|xk hK49<|wp_block<|zbT fun m30 k37=>bn hE15 fun out8 hL8 hE16=>?_
    refine zjM (24::25::rg 278 11 []) (fun(s8:Int×Bs) (m31:FM) (w44:World)=>∃(S11:Mem) (v31:Value) (cs58 rs21:LV),look m31 24=v31∧look m31 25 = .int .i64 (s8.1)∧Mem.le S10 S11∧HS ⟨S,[],w⟩ S11 w44 [.osl (v31) (s8.2).length 1 cs58 rs21 5,.osl (v12) (t3).length 1 cs56 rs20 133,.osl (v11) (y6).length 1 cs8 rs7 5]∧RL S11 cs58 s8.2) hL8 ⟨_,_,_,_,(show _=(v30:Value)from((k37 24).trans (k36 24))),(k37 25),(Mem.le_refl _),H,g36⟩ ?_
    clear H;intro k39 s8 m31 w44 k38 hI8 o35 hb8 hh8;obtain⟨S11,v31,cs58,rs21,q64,q65,hle11,H,g37⟩:=hI8
    replace h1_:=h1_.mono hle11
    replace g11:=g11.mono hle11
    replace g13:=g13.mono hle11
    replace g35:=g35.mono hle11
    have q66:=(k38 7 rfl).trans ((k37 7).trans ((k36 7).trans q63))
    refine wp_seq_k fun K50 hK50=>sr fun K51 hK51=>p_mv q65<|zaC (zfP rfl rfl)<|xk hK51 ?_
    refine zfJ hb8 rfl (fun hb8 hc27=>?_) fun hb8 hc27=>?_
    ·refine wp_skip ?_
     refine xn hK50<|wp_seq_k fun K52 hK52=>wp_block<|wp_region_lit<|p_mv (v:=v31) q64<|p_mv (v:=v12) q66<|p_mv q65<|bn hb8 fun y59 e59 hb8=>?_
     obtain⟨b34,c34,hv34⟩:=H.ownAt (k:=1) rfl (zbB e59)
     refine zaC (zaP (i:=(s8.1:Int).toNat) u129 zcD rfl hv34 rfl (zaB e59).1 (zbB e59)) ?_
     subst hv34
     have hr30:=RL.get g35 (zaB e59).2;generalize hghr30:piece cs56 _ _=cs59 at hr30
     obtain rfl:=zmQ hr30
     refine zaC (ziO (v:=.int .u32 (((y59).toNat:Int))) zeP H (k:=1) rfl rfl (zbB e59) hghr30)<|bn hb8 fun y60 e60 hb8=>zeX is95 rfl<|(yaH H.sub e60).mono<|H.ye fun w45 v32 S12 hle12 H g38=>?_
     replace g11:=g11.mono hle12
     replace g35:=g35.mono hle12
     replace g37:=g37.mono hle12
     refine bn hb8 fun y61 e61 hb8=>?_
     obtain⟨_,hw3,hw3r⟩:=g38
     refine zvI (zgF (k:=0) (v2:=v32) znF rfl H rfl rfl g37 rfl (SlS.w hw3 H.sub) hw3r e61) fun w46 v33 cs60 rs22 H g39=>p_as (v:=v33) rfl<|wpList_nil<|zdM<|xn hK52<|wp_region_lit<|p_mv q65<|zaC (zdS rfl rfl)<|asI rfl ?_
     refine wpList_nil<|zaJ ?_
     obtain rfl:=osi hb8
     exact⟨((w64 (s8.1+1)),y61),_,rfl,(kS k38 rfl kcx),⟨_,_,_,_,rfl,rfl,(Mem.le_trans hle11 hle12),H,g39⟩,hh8⟩
    ·refine wp_exit ?_
     refine zaW<|zaW<|ziQ<|zaJ ?_
     obtain rfl:=osi hb8
     obtain rfl:=osi hh8
     obtain rfl:=osi hE16
     exact J5 _ _ _ _ _ _ (kS k38 rfl (kN k37 kcx)) (show _=(v31:Value)from q64) hle11 H g37
   refine sr fun K17 hK17=>asI rfl<|xk hK17<|wp_block<|zbT fun m10 k12=>bn hE5 fun out3 hL3 hE6=>?_
   refine zjM (rg 10 14 (rg 67 210 [])) (fun(s3:Int×(List UInt32)) (m11:FM) (w18:World)=>∃(S4:Mem) (cs14 rs11:LV),look m11 10 = .int .i64 (s3.1)∧Mem.le S3 S4∧HS ⟨S,[],w⟩ S4 w18 [.osl (v12) (s3.2).length 1 cs14 rs11 133,.osl (v11) (y6).length 1 cs8 rs7 5]∧RL S4 cs14 s3.2) hL3 ⟨_,_,_,(k12 10),(Mem.le_refl _),H,g16⟩ ?_
   clear H;intro k14 s3 m11 w18 k13 hI3 o7 hb3 hh3;obtain⟨S4,cs14,rs11,q15,hle4,H,g17⟩:=hI3
   replace h1_:=h1_.mono hle4
   replace g11:=g11.mono hle4
   replace g13:=g13.mono hle4
   have q16:=(k13 1 rfl).trans ((k12 1).trans ((k11 1).trans q12))
   have q17:=(k13 5 rfl).trans ((k12 5).trans ((k11 5).trans q13))
   have q18:=(k13 7 rfl).trans ((k12 7).trans ((k11 7).trans q14))
   refine wp_seq_k fun K18 hK18=>sr fun K19 hK19=>p_mv q15<|p_mv (v:=v11) q17<|zaC (zwZ u100 rfl H (k:=1) rfl rfl)<|zaC (zfP rfl rfl)<|xk hK19 ?_
   refine zfJ hb3 rfl (fun hb3 hc4=>?_) fun hb3 hc4=>?_
   ·refine wp_skip ?_
    refine xn hK18<|wp_seq_k fun K20 hK20=>zbT fun m12 k15=>bn hb3 fun t4 hE7 hF4=>?_
    have J4:∀(cs55 rs19:LV) (S9:Mem) (m27:FM) (w41:World),Kp (rg 11 13 (rg 73 204 [])) m27 m12→Mem.le S4 S9→HS ⟨S,[],w⟩ S9 w41 [.osl (v12) (t4).length 1 cs55 rs19 133,.osl (v11) (y6).length 1 cs8 rs7 5]→RL S9 cs55 t4→K20 (fr 291 m27) w41:=by
     clear H;intro cs55 rs19 S9 m27 w41 k34 hle9 H g34
     replace h1_:=h1_.mono hle9
     replace g11:=g11.mono hle9
     replace g13:=g13.mono hle9
     have q59:=(k34 1 rfl).trans ((k15 1).trans q16)
     have q60:=(k34 5 rfl).trans ((k15 5).trans q17)
     have q61:=(k34 7 rfl).trans ((k15 7).trans q18)
     have q62:=(k34 10 rfl).trans ((k15 10).trans q15)
     refine hK20 _ _<|wp_region_lit<|p_mv q62<|zaC (zdS rfl rfl)<|asI rfl<|wpList_nil<|zaJ ?_
     obtain rfl:=osi hF4
     exact⟨((w64 (s3.1+64)),t4),_,rfl,(kS k34 rfl (kN k15 (kS k13 rfl kcx))),⟨_,_,_,rfl,(Mem.le_trans hle4 hle9),H,g34⟩,hh3⟩
    refine wp_block<|sr fun K21 hK21=>bn hE7 fun y13 e13 hE7=>zvI (yhM (zx:=(0:UInt32)) ykF rfl H rfl rfl (xcT (x:=(0:UInt32)) rfl) e13 (Int.le_refl _) (yaB e13).2.1) fun w19 v17 cs15 rs12 H g18=>p_as (v:=v17) rfl<|xk hK21<|wp_seq_k fun K22 hK22=>zbT fun m13 k16=>bn hE7 fun t5 hE8 hF5=>?_
    have J3:∀(cs22 rs14:LV) (m16:FM) (w23:World),Kp (12::13::rg 74 40 []) m16 m13→HS ⟨S,[],w⟩ S4 w23 [.osl (v17) (t5).length 1 cs22 rs14 133,.osl (v12) (s3.2).length 1 cs14 rs11 133,.osl (v11) (y6).length 1 cs8 rs7 5]→RL S4 cs22 t5→K22 (fr 291 m16) w23:=by
     clear H;intro cs22 rs14 m16 w23 k20 H g21
     have q25:=(k20 1 rfl).trans ((k16 1).trans ((k15 1).trans q16))
     have q26:=(k20 5 rfl).trans ((k16 5).trans ((k15 5).trans q17))
     have q27:=(k20 7 rfl).trans ((k16 7).trans ((k15 7).trans q18))
     have q28:=(k20 10 rfl).trans ((k16 10).trans ((k15 10).trans q15))
     have q29:look m16 11=v17:=(k20 11 rfl).trans (k16 11)
     refine hK22 _ _<|wp_seq_k fun K28 hK28=>zbT fun m17 k21=>bn hF5 fun t6 hE10 hF6=>?_
     have J2:∀(cs29 rs16:LV) (m20:FM) (w28:World),Kp (14::15::16::rg 114 46 []) m20 m17→HS ⟨S,[],w⟩ S4 w28 [.osl (v17) (t6).length 1 cs29 rs16 133,.osl (v12) (s3.2).length 1 cs14 rs11 133,.osl (v11) (y6).length 1 cs8 rs7 5]→RL S4 cs29 t6→K28 (fr 291 m20) w28:=by
      clear H;intro cs29 rs16 m20 w28 k25 H g24
      have q36:=(k25 1 rfl).trans ((k21 1).trans q25)
      have q37:=(k25 5 rfl).trans ((k21 5).trans q26)
      have q38:=(k25 7 rfl).trans ((k21 7).trans q27)
      have q39:=(k25 10 rfl).trans ((k21 10).trans q28)
      have q40:=(k25 11 rfl).trans ((k21 11).trans q29)
      refine hK28 _ _<|sr fun K34 hK34=>?_
      have g25:RL S4 ([]:LV) ([]:List UInt32):=RL.nil
      refine zxE (zlW (N:=0) (vals:=[]) (l:=([]:LV)) ykF H rfl rfl rfl g25.len) fun w29 v22 H=>p_mv (v:=v12) q38<|bn hF6 fun y30 e30 hF6=>zvI (zgF (k:=0) (v2:=v12) ykF rfl H rfl rfl g25 rfl (H.slW (k:=2) rfl) g17 e30) fun w30 v23 cs31 rs17 H g26=>p_as (v:=v23) rfl<|xk hK34<|wp_seq_k fun K35 hK35=>?_
      obtain⟨S5,hle5,g27,H1⟩:=H.fixX (k:=0) rfl g26;clear H;have H:=H1;clear H1
      replace h1_:=h1_.mono hle5
      replace g11:=g11.mono hle5
      replace g17:=g17.mono hle5
      replace g24:=g24.mono hle5
      refine zbT fun m21 k26=>bn hF6 fun t7 hE12 hF7=>?_
      have J1:∀(v26:Value) (S8:Mem) (m24:FM) (w37:World),Kp (rg 17 6 (rg 163 100 [])) m24 m21→look m24 17=v26→Mem.le S5 S8→HS ⟨S,[],w⟩ S8 w37 [.osl (v17) (t6).length 1 cs29 rs16 133,.osl (v12) (s3.2).length 1 cs14 rs11 133,.osl (v11) (y6).length 1 cs8 rs7 5]→RdS S8 v26 t7→K35 (fr 291 m24) w37:=by
       clear H;intro v26 S8 m24 w37 k30 q48 hle8 H g31
       replace h1_:=h1_.mono hle8
       replace g11:=g11.mono hle8
       replace g17:=g17.mono hle8
       replace g24:=g24.mono hle8
       replace g27:=g27.mono hle8
       have q49:=(k30 1 rfl).trans ((k26 1).trans q36)
       have q50:=(k30 5 rfl).trans ((k26 5).trans q37)
       have q51:=(k30 7 rfl).trans ((k26 7).trans q38)
       have q52:=(k30 10 rfl).trans ((k26 10).trans q39)
       refine hK35 _ _<|sr fun K43 hK43=>asI rfl<|xk hK43<|wp_block<|zbT fun m25 k31=>bn hF7 fun out7 hL7 hE14=>?_
       refine zjM (23::rg 263 14 []) (fun(s7:Int×(List UInt32)) (m26:FM) (w38:World)=>∃(cs51 rs18:LV),look m26 23 = .int .i64 (s7.1)∧HS ⟨S,[],w⟩ S8 w38 [.osl (v17) (t6).length 1 cs29 rs16 133,.osl (v12) (s7.2).length 1 cs51 rs18 133,.osl (v11) (y6).length 1 cs8 rs7 5]∧RL S8 cs51 s7.2) hL7 ⟨_,_,(k31 23),H,g17⟩ ?_
       clear H;intro k33 s7 m26 w38 k32 hI7 o32 hb7 hh7;obtain⟨cs51,rs18,q53,H,g32⟩:=hI7
       have q54:=(k32 1 rfl).trans ((k31 1).trans q49)
       have q55:=(k32 5 rfl).trans ((k31 5).trans q50)
       have q56:=(k32 7 rfl).trans ((k31 7).trans q51)
       have q57:=(k32 10 rfl).trans ((k31 10).trans q52)
       have q58:=(k32 17 rfl).trans ((k31 17).trans q48)
       refine wp_seq_k fun K44 hK44=>sr fun K45 hK45=>p_mv q53<|zaC (zfP rfl rfl)<|xk hK45 ?_
       refine zfJ hb7 rfl (fun hb7 hc25=>?_) fun hb7 hc25=>?_
       ·refine wp_skip ?_
        refine xn hK44<|wp_seq_k fun K46 hK46=>wp_block<|bn hb7 fun y55 e55 hb7=>?_
        obtain⟨b31,c31,hv31⟩:=H.ownAt (k:=1) rfl (zbB e55)
        subst hv31
        have hr28:=RL.get g32 (zaB e55).2;generalize hghr28:piece cs51 _ _=cs52 at hr28
        obtain rfl:=zmQ hr28
        refine bn hb7 fun y56 e56 hb7=>?_
        obtain⟨b32,o33,N19,c32,cs53,hv32,hi19,hc26,hr29⟩:=g31.get (zaB e56).2
        obtain rfl:=zmQ hr29
        refine bn hb7 fun y57 e57 hb7=>wrS H 10 [] fun vs8 H=>?_
        refine tp (zaE (v:=(sl b31 0 (s7.2).length c31)) q56)<|tp (zaE q53)<|tp (zaP (i:=(s7.1:Int).toNat) u129 zcD rfl rfl rfl (zaB e55).1 (zbB e55))<|t_v (fun w hx=>ziO (v:=.int .u32 (((y55).toNat:Int))) zeP (H.ext hx) (k:=1) rfl rfl (zbB e55) hghr28)<|tp (zaE (v:=v26) q58)<|tp (zaE q53) ?_
        refine tp (zaP (i:=(s7.1:Int).toNat) u129 zcD rfl hv32 rfl (zaB e56).1 hi19)<|t_v (fun w hx=>zdK (p:=(o33+(s7.1:Int).toNat*1)) (o:=0) (v:=.int .u32 (((y56).toNat:Int))) zeP (H.ext hx).sub rfl hc26 rfl)<|tp (ziZ rfl rfl (zbG _))<|tp (zaP (i:=(s7.1:Int).toNat) u129 zcD rfl (HS.ownV H (k:=1) rfl) rfl (zaB e57).1 (zbB e57)) ?_
        refine zmR<|H.tn fun w39 H=>bn hb7 fun y58 e58 hb7=>yfK (zlU (k:=1) (l:=[Value.int .u32 ((((i32 (((y55).toNat:Int)+((y56).toNat:Int)))).toNat:Int))]) zcD rfl H rfl g32 rfl rfl (cells_one rfl) zyA e58) fun w40 cs54 H g33=>wpList_nil<|zdC<|zdM<|xn hK46<|wp_region_lit<|p_mv q53<|zaC (zdS rfl rfl) ?_
        refine asI rfl<|wpList_nil<|zaJ ?_
        obtain rfl:=osi hb7
        exact⟨((w64 (s7.1+1)),y58),_,rfl,(kS k32 rfl kcx),⟨_,_,rfl,H,g33⟩,hh7⟩
       ·refine wp_exit ?_
        refine zaW<|zaW<|ziQ<|zdM<|zaJ ?_
        replace H:=H.sel [1,2] rfl
        replace H:=hsn H
        obtain rfl:=osi hb7
        obtain rfl:=osi hh7
        obtain rfl:=osi hE14
        exact J4 _ _ _ _ _ (kS k32 rfl (kN k31 (kS k30 rfl (kN k26 (kS k25 rfl (kN k21 (kS k20 rfl (kN k16 kcx)))))))) (Mem.le_trans hle5 hle8) H g32
      refine sr fun K36 hK36=>asI rfl<|xk hK36<|wp_block<|zbT fun m22 k27=>bn hE12 fun out6 hL6 hE13=>?_
      refine zjM (rg 17 6 (rg 163 100 [])) (fun(s6:(List UInt32)×Int) (m23:FM) (w31:World)=>∃(S6:Mem) (v24:Value),look m23 17=v24∧look m23 18 = .int .i64 (s6.2)∧Mem.le S5 S6∧HS ⟨S,[],w⟩ S6 w31 [.osl (v17) (t6).length 1 cs29 rs16 133,.osl (v12) (s3.2).length 1 cs14 rs11 133,.osl (v11) (y6).length 1 cs8 rs7 5]∧RdS S6 v24 s6.1) hL6 ⟨_,_,(show _=(v23:Value)from((k27 17).trans (k26 17))),(k27 18),(Mem.le_refl _),H,g27⟩ ?_
      clear H;intro k29 s6 m23 w31 k28 hI6 o14 hb6 hh6;obtain⟨S6,v24,q41,q42,hle6,H,g28⟩:=hI6
      replace h1_:=h1_.mono hle6
      replace g11:=g11.mono hle6
      replace g17:=g17.mono hle6
      replace g24:=g24.mono hle6
      replace g27:=g27.mono hle6
      have q43:=(k28 1 rfl).trans ((k27 1).trans ((k26 1).trans q36))
      have q44:=(k28 5 rfl).trans ((k27 5).trans ((k26 5).trans q37))
      have q45:=(k28 7 rfl).trans ((k27 7).trans ((k26 7).trans q38))
      have q46:=(k28 10 rfl).trans ((k27 10).trans ((k26 10).trans q39))
      have q47:=(k28 11 rfl).trans ((k27 11).trans ((k26 11).trans q40))
      refine wp_seq_k fun K37 hK37=>sr fun K38 hK38=>p_mv q42<|zaC (zfP rfl rfl)<|xk hK38 ?_
      refine zfJ hb6 rfl (fun hb6 hc7=>?_) fun hb6 hc7=>?_
      ·refine wp_skip ?_
       refine xn hK37<|wp_seq_k fun K39 hK39=>wp_block<|wp_seq_k fun K40 hK40=>bn hb6 fun y31 e31 hb6=>?_
       obtain⟨b13,o15,N2,c13,cs32,hv13,hi2,hc8,hr10⟩:=g28.get (zaB e31).2
       obtain rfl:=zmQ hr10
       refine bn hb6 fun y32 e32 hb6=>?_
       obtain⟨b14,o16,N3,c14,cs33,hv14,hi3,hc9,hr11⟩:=g28.get (zaB e32).2
       obtain rfl:=zmQ hr11
       refine wrS H 7 [] fun vs4 H=>?_
       refine tp (zaE (v:=v24) q41)<|tp (zaP (i:=(4:Int).toNat) u129 zcD rfl hv13 rfl (zaB e31).1 hi2)<|t_v (fun w hx=>zdK (p:=(o15+(4:Int).toNat*1)) (o:=0) (v:=.int .u32 (((y31).toNat:Int))) zeP (H.ext hx).sub rfl hc8 rfl)<|tp (zaE (v:=v24) q41)<|tp (zaP (i:=(0:Int).toNat) u129 zcD rfl hv14 rfl (zaB e32).1 hi3) ?_
       refine t_v (fun w hx=>zdK (p:=(o16+(0:Int).toNat*1)) (o:=0) (v:=.int .u32 (((y32).toNat:Int))) zeP (H.ext hx).sub rfl hc9 rfl)<|tp (ziC (v:=.int .u32 (((y31).toNat:Int))) rfl)<|zmR<|H.tn fun w32 H=>asI rfl<|wpList_nil<|zdC<|xn hK40<|wp_seq_k fun K41 hK41=>bn hb6 fun y33 e33 hb6=>?_
       obtain⟨b15,o17,N4,c15,cs34,hv15,hi4,hc10,hr12⟩:=g28.get (zaB e33).2
       obtain rfl:=zmQ hr12
       refine bn hb6 fun y34 e34 hb6=>bn hb6 fun y35 e35 hb6=>bn hb6 fun y36 e36 hb6=>bn hb6 fun y37 e37 hb6=>?_
       obtain⟨b16,o18,N5,c16,cs35,hv16,hi5,hc11,hr13⟩:=g28.get (zaB e37).2
       obtain rfl:=zmQ hr13
       refine bn hb6 fun y38 e38 hb6=>?_
       obtain⟨b17,o19,N6,c17,cs36,hv17,hi6,hc12,hr14⟩:=g28.get (zaB e38).2
       obtain rfl:=zmQ hr14
       refine bn hb6 fun y39 e39 hb6=>?_
       obtain⟨b18,o20,N7,c18,cs37,hv18,hi7,hc13,hr15⟩:=h1_.get (zaB e39).2
       obtain rfl:=zmQ hr15
       refine bn hb6 fun y40 e40 hb6=>?_
       obtain⟨b19,c19,hv19⟩:=H.ownAt (k:=0) rfl (zbB e40)
       subst hv19
       have hr16:=RL.get g24 (zaB e40).2;generalize hghr16:piece cs29 _ _=cs38 at hr16
       obtain rfl:=zmQ hr16
       refine wrS H 35 [(4,.inl (.int .u32 (((y34).toNat:Int)))),(6,.inl (.int .u32 (((y35).toNat:Int)))),(9,.inl (.int .u32 (((y36).toNat:Int))))] fun vs5 H=>?_
       refine tp (zaE (v:=v24) q41)<|tp (zaP (i:=(7:Int).toNat) u129 zcD rfl hv15 rfl (zaB e33).1 hi4)<|t_v (fun w hx=>zdK (p:=(o17+(7:Int).toNat*1)) (o:=0) (v:=.int .u32 (((y33).toNat:Int))) zeP (H.ext hx).sub rfl hc10 rfl)<|tp (zaE (v:=.int .u32 (((y31).toNat:Int))) rfl)<|tcx ydB (fun w hx=>zlV (H.ext hx).sub e34) ?_
       refine tp (zaE (v:=.int .u32 (((y31).toNat:Int))) rfl)<|tcx ydB (fun w hx=>zlV (H.ext hx).sub e35)<|tp (zbH (bo:=.xor) (by simp) rfl rfl (zdJ _ _))<|tp (zaE (v:=.int .u32 (((y31).toNat:Int))) rfl)<|tcx ydB (fun w hx=>zlV (H.ext hx).sub e36)<|tp (zbH (bo:=.xor) (by simp) rfl rfl (zdJ _ _))<|tp (ziZ rfl rfl (zbG _)) ?_
       refine tp (zaE (v:=.int .u32 (((y31).toNat:Int))) rfl)<|tp (zaE (v:=v24) q41)<|tp (zaP (i:=(5:Int).toNat) u129 zcD rfl hv16 rfl (zaB e37).1 hi5)<|t_v (fun w hx=>zdK (p:=(o18+(5:Int).toNat*1)) (o:=0) (v:=.int .u32 (((y37).toNat:Int))) zeP (H.ext hx).sub rfl hc11 rfl)<|tp (zbH (bo:=.and) (by simp) rfl rfl (zoH _ _)) ?_
       refine tp (zaE (v:=.int .u32 (((y31).toNat:Int))) rfl)<|tp (zbH (bo:=.xor) (by simp) rfl rfl (zdJ (4294967295:UInt32) _))<|tp (zaE (v:=v24) q41)<|tp (zaP (i:=(6:Int).toNat) u129 zcD rfl hv17 rfl (zaB e38).1 hi6)<|t_v (fun w hx=>zdK (p:=(o19+(6:Int).toNat*1)) (o:=0) (v:=.int .u32 (((y38).toNat:Int))) zeP (H.ext hx).sub rfl hc12 rfl) ?_
       refine tp (zbH (bo:=.and) (by simp) rfl rfl (zoH _ _))<|tp (zbH (bo:=.xor) (by simp) rfl rfl (zdJ _ _))<|tp (ziZ rfl rfl (zbG _))<|tp (zaE (v:=v1_) q43)<|tp (zaE q42)<|tp (zaP (i:=(s6.2:Int).toNat) u129 zcD rfl hv18 rfl (zaB e39).1 hi7) ?_
       refine t_v (fun w hx=>zdK (p:=(o20+(s6.2:Int).toNat*1)) (o:=0) (v:=.int .u32 (((y39).toNat:Int))) zeP (H.ext hx).sub rfl hc13 rfl)<|tp (ziZ rfl rfl (zbG _))<|tp (zaE (v:=(sl b19 0 (t6).length c19)) q47)<|tp (zaE q42)<|tp (zaP (i:=(s6.2:Int).toNat) u129 zcD rfl rfl rfl (zaB e40).1 (zbB e40)) ?_
       refine t_v (fun w hx=>ziO (v:=.int .u32 (((y40).toNat:Int))) zeP (H.ext hx) (k:=0) rfl rfl (zbB e40) hghr16)<|tp (ziZ rfl rfl (zbG _))<|zmR<|H.tn fun w33 H=>asI rfl<|wpList_nil<|zdC<|xn hK41<|wp_seq_k fun K42 hK42=>bn hb6 fun y41 e41 hb6=>bn hb6 fun y42 e42 hb6=>?_
       refine bn hb6 fun y43 e43 hb6=>bn hb6 fun y44 e44 hb6=>?_
       obtain⟨b20,o21,N8,c20,cs39,hv20,hi8,hc14,hr17⟩:=g28.get (zaB e44).2
       obtain rfl:=zmQ hr17
       refine bn hb6 fun y45 e45 hb6=>?_
       obtain⟨b21,o22,N9,c21,cs40,hv21,hi9,hc15,hr18⟩:=g28.get (zaB e45).2
       obtain rfl:=zmQ hr18
       refine bn hb6 fun y46 e46 hb6=>?_
       obtain⟨b22,o23,N10,c22,cs41,hv22,hi10,hc16,hr19⟩:=g28.get (zaB e46).2
       obtain rfl:=zmQ hr19
       refine bn hb6 fun y47 e47 hb6=>?_
       obtain⟨b23,o24,N11,c23,cs42,hv23,hi11,hc17,hr20⟩:=g28.get (zaB e47).2
       obtain rfl:=zmQ hr20
       refine wrS H 28 [(1,.inl (.int .u32 (((y41).toNat:Int)))),(3,.inl (.int .u32 (((y42).toNat:Int)))),(6,.inl (.int .u32 (((y43).toNat:Int))))] fun vs6 H=>?_
       refine tp (zaE (v:=.int .u32 (((y32).toNat:Int))) rfl)<|tcx ydB (fun w hx=>zlV (H.ext hx).sub e41)<|tp (zaE (v:=.int .u32 (((y32).toNat:Int))) rfl)<|tcx ydB (fun w hx=>zlV (H.ext hx).sub e42)<|tp (zbH (bo:=.xor) (by simp) rfl rfl (zdJ _ _))<|tp (zaE (v:=.int .u32 (((y32).toNat:Int))) rfl) ?_
       refine tcx ydB (fun w hx=>zlV (H.ext hx).sub e43)<|tp (zbH (bo:=.xor) (by simp) rfl rfl (zdJ _ _))<|tp (zaE (v:=.int .u32 (((y32).toNat:Int))) rfl)<|tp (zaE (v:=v24) q41)<|tp (zaP (i:=(1:Int).toNat) u129 zcD rfl hv20 rfl (zaB e44).1 hi8) ?_
       refine t_v (fun w hx=>zdK (p:=(o21+(1:Int).toNat*1)) (o:=0) (v:=.int .u32 (((y44).toNat:Int))) zeP (H.ext hx).sub rfl hc14 rfl)<|tp (zbH (bo:=.and) (by simp) rfl rfl (zoH _ _))<|tp (zaE (v:=.int .u32 (((y32).toNat:Int))) rfl)<|tp (zaE (v:=v24) q41)<|tp (zaP (i:=(2:Int).toNat) u129 zcD rfl hv21 rfl (zaB e45).1 hi9) ?_
       refine t_v (fun w hx=>zdK (p:=(o22+(2:Int).toNat*1)) (o:=0) (v:=.int .u32 (((y45).toNat:Int))) zeP (H.ext hx).sub rfl hc15 rfl)<|tp (zbH (bo:=.and) (by simp) rfl rfl (zoH _ _))<|tp (zbH (bo:=.xor) (by simp) rfl rfl (zdJ _ _))<|tp (zaE (v:=v24) q41)<|tp (zaP (i:=(1:Int).toNat) u129 zcD rfl hv22 rfl (zaB e46).1 hi10) ?_
       refine t_v (fun w hx=>zdK (p:=(o23+(1:Int).toNat*1)) (o:=0) (v:=.int .u32 (((y46).toNat:Int))) zeP (H.ext hx).sub rfl hc16 rfl)<|tp (zaE (v:=v24) q41)<|tp (zaP (i:=(2:Int).toNat) u129 zcD rfl hv23 rfl (zaB e47).1 hi11) ?_
       refine t_v (fun w hx=>zdK (p:=(o24+(2:Int).toNat*1)) (o:=0) (v:=.int .u32 (((y47).toNat:Int))) zeP (H.ext hx).sub rfl hc17 rfl)<|tp (zbH (bo:=.and) (by simp) rfl rfl (zoH _ _))<|tp (zbH (bo:=.xor) (by simp) rfl rfl (zdJ _ _))<|tp (ziZ rfl rfl (zbG _))<|zmR<|H.tn fun w34 H=>asI rfl<|wpList_nil<|zdC<|xn hK42<|bn hb6 fun y48 e48 hb6=>?_
       obtain⟨b24,o25,N12,c24,cs43,hv24,hi12,hc18,hr21⟩:=g28.get (zaB e48).2
       obtain rfl:=zmQ hr21
       refine bn hb6 fun y49 e49 hb6=>?_
       obtain⟨b25,o26,N13,c25,cs44,hv25,hi13,hc19,hr22⟩:=g28.get (zaB e49).2
       obtain rfl:=zmQ hr22
       refine bn hb6 fun y50 e50 hb6=>?_
       obtain⟨b26,o27,N14,c26,cs45,hv26,hi14,hc20,hr23⟩:=g28.get (zaB e50).2
       obtain rfl:=zmQ hr23
       refine bn hb6 fun y51 e51 hb6=>?_
       obtain⟨b27,o28,N15,c27,cs46,hv27,hi15,hc21,hr24⟩:=g28.get (zaB e51).2
       obtain rfl:=zmQ hr24
       refine bn hb6 fun y52 e52 hb6=>?_
       obtain⟨b28,o29,N16,c28,cs47,hv28,hi16,hc22,hr25⟩:=g28.get (zaB e52).2
       obtain rfl:=zmQ hr25
       refine bn hb6 fun y53 e53 hb6=>?_
       obtain⟨b29,o30,N17,c29,cs48,hv29,hi17,hc23,hr26⟩:=g28.get (zaB e53).2
       obtain rfl:=zmQ hr26
       refine bn hb6 fun y54 e54 hb6=>?_
       obtain⟨b30,o31,N18,c30,cs49,hv30,hi18,hc24,hr27⟩:=g28.get (zaB e54).2
       obtain rfl:=zmQ hr27
       refine wrS H 26 [] fun vs7 H=>?_
       refine tp (zaE (v:=.int .u32 ((((i32 ((((i32 ((((i32 ((((i32 (((y33).toNat:Int)+((((y34^^^y35)^^^y36)).toNat:Int)))).toNat:Int)+((((y31&&&y37)^^^(((4294967295:UInt32)^^^y31)&&&y38))).toNat:Int)))).toNat:Int)+((y39).toNat:Int)))).toNat:Int)+((y40).toNat:Int)))).toNat:Int))) rfl) ?_
       refine tp (zaE (v:=.int .u32 ((((i32 (((((y41^^^y42)^^^y43)).toNat:Int)+(((((y32&&&y44)^^^(y32&&&y45))^^^(y46&&&y47))).toNat:Int)))).toNat:Int))) rfl)<|tp (ziZ rfl rfl (zbG _))<|tp (zaE (v:=v24) q41)<|tp (zaP (i:=(0:Int).toNat) u129 zcD rfl hv24 rfl (zaB e48).1 hi12) ?_
       refine t_v (fun w hx=>zdK (p:=(o25+(0:Int).toNat*1)) (o:=0) (v:=.int .u32 (((y48).toNat:Int))) zeP (H.ext hx).sub rfl hc18 rfl)<|tp (zaE (v:=v24) q41)<|tp (zaP (i:=(1:Int).toNat) u129 zcD rfl hv25 rfl (zaB e49).1 hi13) ?_
       refine t_v (fun w hx=>zdK (p:=(o26+(1:Int).toNat*1)) (o:=0) (v:=.int .u32 (((y49).toNat:Int))) zeP (H.ext hx).sub rfl hc19 rfl)<|tp (zaE (v:=v24) q41)<|tp (zaP (i:=(2:Int).toNat) u129 zcD rfl hv26 rfl (zaB e50).1 hi14) ?_
       refine t_v (fun w hx=>zdK (p:=(o27+(2:Int).toNat*1)) (o:=0) (v:=.int .u32 (((y50).toNat:Int))) zeP (H.ext hx).sub rfl hc20 rfl)<|tp (zaE (v:=v24) q41)<|tp (zaP (i:=(3:Int).toNat) u129 zcD rfl hv27 rfl (zaB e51).1 hi15) ?_
       refine t_v (fun w hx=>zdK (p:=(o28+(3:Int).toNat*1)) (o:=0) (v:=.int .u32 (((y51).toNat:Int))) zeP (H.ext hx).sub rfl hc21 rfl) ?_
       refine tp (zaE (v:=.int .u32 ((((i32 ((((i32 ((((i32 ((((i32 (((y33).toNat:Int)+((((y34^^^y35)^^^y36)).toNat:Int)))).toNat:Int)+((((y31&&&y37)^^^(((4294967295:UInt32)^^^y31)&&&y38))).toNat:Int)))).toNat:Int)+((y39).toNat:Int)))).toNat:Int)+((y40).toNat:Int)))).toNat:Int))) rfl)<|tp (ziZ rfl rfl (zbG _))<|tp (zaE (v:=v24) q41) ?_
       refine tp (zaP (i:=(4:Int).toNat) u129 zcD rfl hv28 rfl (zaB e52).1 hi16)<|t_v (fun w hx=>zdK (p:=(o29+(4:Int).toNat*1)) (o:=0) (v:=.int .u32 (((y52).toNat:Int))) zeP (H.ext hx).sub rfl hc22 rfl)<|tp (zaE (v:=v24) q41)<|tp (zaP (i:=(5:Int).toNat) u129 zcD rfl hv29 rfl (zaB e53).1 hi17) ?_
       refine t_v (fun w hx=>zdK (p:=(o30+(5:Int).toNat*1)) (o:=0) (v:=.int .u32 (((y53).toNat:Int))) zeP (H.ext hx).sub rfl hc23 rfl)<|tp (zaE (v:=v24) q41)<|tp (zaP (i:=(6:Int).toNat) u129 zcD rfl hv30 rfl (zaB e54).1 hi18) ?_
       refine t_v (fun w hx=>zdK (p:=(o31+(6:Int).toNat*1)) (o:=0) (v:=.int .u32 (((y54).toNat:Int))) zeP (H.ext hx).sub rfl hc24 rfl)<|zmR<|H.tn fun w35 H=>?_
       have g29:RL S6 ([Value.int .u32 ((((i32 ((((i32 ((((i32 ((((i32 ((((i32 (((y33).toNat:Int)+((((y34^^^y35)^^^y36)).toNat:Int)))).toNat:Int)+((((y31&&&y37)^^^(((4294967295:UInt32)^^^y31)&&&y38))).toNat:Int)))).toNat:Int)+((y39).toNat:Int)))).toNat:Int)+((y40).toNat:Int)))).toNat:Int)+(((i32 (((((y41^^^y42)^^^y43)).toNat:Int)+(((((y32&&&y44)^^^(y32&&&y45))^^^(y46&&&y47))).toNat:Int)))).toNat:Int)))).toNat:Int))]++([Value.int .u32 (((y48).toNat:Int))]++([Value.int .u32 (((y49).toNat:Int))]++([Value.int .u32 (((y50).toNat:Int))]++([Value.int .u32 ((((i32 (((y51).toNat:Int)+(((i32 ((((i32 ((((i32 ((((i32 (((y33).toNat:Int)+((((y34^^^y35)^^^y36)).toNat:Int)))).toNat:Int)+((((y31&&&y37)^^^(((4294967295:UInt32)^^^y31)&&&y38))).toNat:Int)))).toNat:Int)+((y39).toNat:Int)))).toNat:Int)+((y40).toNat:Int)))).toNat:Int)))).toNat:Int))]++([Value.int .u32 (((y52).toNat:Int))]++([Value.int .u32 (((y53).toNat:Int))]++([Value.int .u32 (((y54).toNat:Int))]++([]:LV))))))))) ([(i32 ((((i32 ((((i32 ((((i32 ((((i32 (((y33).toNat:Int)+((((y34^^^y35)^^^y36)).toNat:Int)))).toNat:Int)+((((y31&&&y37)^^^(((4294967295:UInt32)^^^y31)&&&y38))).toNat:Int)))).toNat:Int)+((y39).toNat:Int)))).toNat:Int)+((y40).toNat:Int)))).toNat:Int)+(((i32 (((((y41^^^y42)^^^y43)).toNat:Int)+(((((y32&&&y44)^^^(y32&&&y45))^^^(y46&&&y47))).toNat:Int)))).toNat:Int))),y48,y49,y50,(i32 (((y51).toNat:Int)+(((i32 ((((i32 ((((i32 ((((i32 (((y33).toNat:Int)+((((y34^^^y35)^^^y36)).toNat:Int)))).toNat:Int)+((((y31&&&y37)^^^(((4294967295:UInt32)^^^y31)&&&y38))).toNat:Int)))).toNat:Int)+((y39).toNat:Int)))).toNat:Int)+((y40).toNat:Int)))).toNat:Int))),y52,y53,y54]:List UInt32):=(RL.cons zyA (RL.cons zyA (RL.cons zyA (RL.cons zyA (RL.cons zyA (RL.cons zyA (RL.cons zyA (RL.cons zyA RL.nil))))))))
       refine zxE (zlW (N:=8) (vals:=[(0,.int .u32 ((((i32 ((((i32 ((((i32 ((((i32 ((((i32 (((y33).toNat:Int)+((((y34^^^y35)^^^y36)).toNat:Int)))).toNat:Int)+((((y31&&&y37)^^^(((4294967295:UInt32)^^^y31)&&&y38))).toNat:Int)))).toNat:Int)+((y39).toNat:Int)))).toNat:Int)+((y40).toNat:Int)))).toNat:Int)+(((i32 (((((y41^^^y42)^^^y43)).toNat:Int)+(((((y32&&&y44)^^^(y32&&&y45))^^^(y46&&&y47))).toNat:Int)))).toNat:Int)))).toNat:Int))),(1,.int .u32 (((y48).toNat:Int))),(2,.int .u32 (((y49).toNat:Int))),(3,.int .u32 (((y50).toNat:Int))),(4,.int .u32 ((((i32 (((y51).toNat:Int)+(((i32 ((((i32 ((((i32 ((((i32 (((y33).toNat:Int)+((((y34^^^y35)^^^y36)).toNat:Int)))).toNat:Int)+((((y31&&&y37)^^^(((4294967295:UInt32)^^^y31)&&&y38))).toNat:Int)))).toNat:Int)+((y39).toNat:Int)))).toNat:Int)+((y40).toNat:Int)))).toNat:Int)))).toNat:Int))),(5,.int .u32 (((y52).toNat:Int))),(6,.int .u32 (((y53).toNat:Int))),(7,.int .u32 (((y54).toNat:Int)))]) (l:=([Value.int .u32 ((((i32 ((((i32 ((((i32 ((((i32 ((((i32 (((y33).toNat:Int)+((((y34^^^y35)^^^y36)).toNat:Int)))).toNat:Int)+((((y31&&&y37)^^^(((4294967295:UInt32)^^^y31)&&&y38))).toNat:Int)))).toNat:Int)+((y39).toNat:Int)))).toNat:Int)+((y40).toNat:Int)))).toNat:Int)+(((i32 (((((y41^^^y42)^^^y43)).toNat:Int)+(((((y32&&&y44)^^^(y32&&&y45))^^^(y46&&&y47))).toNat:Int)))).toNat:Int)))).toNat:Int))]++([Value.int .u32 (((y48).toNat:Int))]++([Value.int .u32 (((y49).toNat:Int))]++([Value.int .u32 (((y50).toNat:Int))]++([Value.int .u32 ((((i32 (((y51).toNat:Int)+(((i32 ((((i32 ((((i32 ((((i32 (((y33).toNat:Int)+((((y34^^^y35)^^^y36)).toNat:Int)))).toNat:Int)+((((y31&&&y37)^^^(((4294967295:UInt32)^^^y31)&&&y38))).toNat:Int)))).toNat:Int)+((y39).toNat:Int)))).toNat:Int)+((y40).toNat:Int)))).toNat:Int)))).toNat:Int))]++([Value.int .u32 (((y52).toNat:Int))]++([Value.int .u32 (((y53).toNat:Int))]++([Value.int .u32 (((y54).toNat:Int))]++([]:LV)))))))))) ykF H rfl rfl rfl g29.len) fun w36 v25 H=>?_
       generalize ([Value.int .u32 ((((i32 ((((i32 ((((i32 ((((i32 ((((i32 (((y33).toNat:Int)+((((y34^^^y35)^^^y36)).toNat:Int)))).toNat:Int)+((((y31&&&y37)^^^(((4294967295:UInt32)^^^y31)&&&y38))).toNat:Int)))).toNat:Int)+((y39).toNat:Int)))).toNat:Int)+((y40).toNat:Int)))).toNat:Int)+(((i32 (((((y41^^^y42)^^^y43)).toNat:Int)+(((((y32&&&y44)^^^(y32&&&y45))^^^(y46&&&y47))).toNat:Int)))).toNat:Int)))).toNat:Int))]++([Value.int .u32 (((y48).toNat:Int))]++([Value.int .u32 (((y49).toNat:Int))]++([Value.int .u32 (((y50).toNat:Int))]++([Value.int .u32 ((((i32 (((y51).toNat:Int)+(((i32 ((((i32 ((((i32 ((((i32 (((y33).toNat:Int)+((((y34^^^y35)^^^y36)).toNat:Int)))).toNat:Int)+((((y31&&&y37)^^^(((4294967295:UInt32)^^^y31)&&&y38))).toNat:Int)))).toNat:Int)+((y39).toNat:Int)))).toNat:Int)+((y40).toNat:Int)))).toNat:Int)))).toNat:Int))]++([Value.int .u32 (((y52).toNat:Int))]++([Value.int .u32 (((y53).toNat:Int))]++([Value.int .u32 (((y54).toNat:Int))]++([]:LV)))))))))=cs50 at H g29
       replace H:=hsn H
       refine p_as (v:=v25) rfl<|wpList_nil<|zdC<|zdM<|xn hK39<|wp_region_lit<|p_mv q42<|zaC (zdS rfl rfl)<|asI rfl<|wpList_nil ?_
       refine zaJ ?_
       obtain⟨S7,hle7,g30,H1⟩:=H.fixX (k:=0) rfl g29;clear H;have H:=H1;clear H1
       replace h1_:=h1_.mono hle7
       replace g11:=g11.mono hle7
       replace g17:=g17.mono hle7
       replace g24:=g24.mono hle7
       replace g28:=g28.mono hle7
       replace hc8:=CellAt.mono hc8 hle7
       replace hc9:=CellAt.mono hc9 hle7
       replace hc10:=CellAt.mono hc10 hle7
       replace hc11:=CellAt.mono hc11 hle7
       replace hc12:=CellAt.mono hc12 hle7
       replace hc13:=CellAt.mono hc13 hle7
       replace hc14:=CellAt.mono hc14 hle7
       replace hc15:=CellAt.mono hc15 hle7
       replace hc16:=CellAt.mono hc16 hle7
       replace hc17:=CellAt.mono hc17 hle7
       replace hc18:=CellAt.mono hc18 hle7
       replace hc19:=CellAt.mono hc19 hle7
       replace hc20:=CellAt.mono hc20 hle7
       replace hc21:=CellAt.mono hc21 hle7
       replace hc22:=CellAt.mono hc22 hle7
       replace hc23:=CellAt.mono hc23 hle7
       replace hc24:=CellAt.mono hc24 hle7
       obtain rfl:=osi hb6
       exact⟨(([(i32 ((((i32 ((((i32 ((((i32 ((((i32 (((y33).toNat:Int)+((((y34^^^y35)^^^y36)).toNat:Int)))).toNat:Int)+((((y31&&&y37)^^^(((4294967295:UInt32)^^^y31)&&&y38))).toNat:Int)))).toNat:Int)+((y39).toNat:Int)))).toNat:Int)+((y40).toNat:Int)))).toNat:Int)+(((i32 (((((y41^^^y42)^^^y43)).toNat:Int)+(((((y32&&&y44)^^^(y32&&&y45))^^^(y46&&&y47))).toNat:Int)))).toNat:Int))),y48,y49,y50,(i32 (((y51).toNat:Int)+(((i32 ((((i32 ((((i32 ((((i32 (((y33).toNat:Int)+((((y34^^^y35)^^^y36)).toNat:Int)))).toNat:Int)+((((y31&&&y37)^^^(((4294967295:UInt32)^^^y31)&&&y38))).toNat:Int)))).toNat:Int)+((y39).toNat:Int)))).toNat:Int)+((y40).toNat:Int)))).toNat:Int))),y52,y53,y54]:List UInt32),(w64 (s6.2+1))),_,rfl,(kS k28 rfl kcx),⟨_,_,rfl,rfl,(Mem.le_trans hle6 hle7),H,g30⟩,hh6⟩
      ·refine wp_exit ?_
       refine zaW<|zaW<|ziQ<|zaJ ?_
       obtain rfl:=osi hb6
       obtain rfl:=osi hh6
       obtain rfl:=osi hE13
       exact J1 _ _ _ _ (kS k28 rfl (kN k27 kcx)) (show _=(v24:Value)from q41) hle6 H g28
     refine sr fun K29 hK29=>asI rfl<|xk hK29<|wp_block<|zbT fun m18 k22=>bn hE10 fun out5 hL5 hE11=>?_
     refine zjM (14::15::16::rg 114 46 []) (fun(s5:Int×(List UInt32)) (m19:FM) (w24:World)=>∃(cs23 rs15:LV),look m19 14 = .int .i64 (s5.1)∧HS ⟨S,[],w⟩ S4 w24 [.osl (v17) (s5.2).length 1 cs23 rs15 133,.osl (v12) (s3.2).length 1 cs14 rs11 133,.osl (v11) (y6).length 1 cs8 rs7 5]∧RL S4 cs23 s5.2) hL5 ⟨_,_,(k22 14),H,g21⟩ ?_
     clear H;intro k24 s5 m19 w24 k23 hI5 o12 hb5 hh5;obtain⟨cs23,rs15,q30,H,g22⟩:=hI5
     have q31:=(k23 1 rfl).trans ((k22 1).trans ((k21 1).trans q25))
     have q32:=(k23 5 rfl).trans ((k22 5).trans ((k21 5).trans q26))
     have q33:=(k23 7 rfl).trans ((k22 7).trans ((k21 7).trans q27))
     have q34:=(k23 10 rfl).trans ((k22 10).trans ((k21 10).trans q28))
     have q35:=(k23 11 rfl).trans ((k22 11).trans ((k21 11).trans q29))
     refine wp_seq_k fun K30 hK30=>sr fun K31 hK31=>p_mv q30<|zaC (zfP rfl rfl)<|xk hK31 ?_
     refine zfJ hb5 rfl (fun hb5 hc6=>?_) fun hb5 hc6=>?_
     ·refine wp_skip ?_
      refine xn hK30<|wp_seq_k fun K32 hK32=>wp_block<|wp_seq_k fun K33 hK33=>bn hb5 fun y20 e20 hb5=>?_
      obtain⟨b8,c8,hv8⟩:=H.ownAt (k:=0) rfl (zbB e20)
      subst hv8
      have hr6:=RL.get g22 (zaB e20).2;generalize hghr6:piece cs23 _ _=cs24 at hr6
      obtain rfl:=zmQ hr6
      refine bn hb5 fun y21 e21 hb5=>?_
      have hr7:=RL.get g22 (zaB e21).2;generalize hghr7:piece cs23 _ _=cs25 at hr7
      obtain rfl:=zmQ hr7
      refine wrS H 11 [] fun vs2 H=>?_
      refine tp (zaE (v:=(sl b8 0 (s5.2).length c8)) q35)<|tp (zaE q30)<|tp (zoW rfl rfl)<|tp (zaP (i:=((w64 (s5.1-15)):Int).toNat) u129 zcD rfl rfl rfl (zaB e20).1 (zbB e20))<|t_v (fun w hx=>ziO (v:=.int .u32 (((y20).toNat:Int))) zeP (H.ext hx) (k:=0) rfl rfl (zbB e20) hghr6)<|tp (zaE (v:=sl b8 0 (s5.2).length c8) q35)<|tp (zaE q30) ?_
      refine tp (zoW rfl rfl)<|tp (zaP (i:=((w64 (s5.1-2)):Int).toNat) u129 zcD rfl (HS.ownV H (k:=0) rfl) rfl (zaB e21).1 (zbB e21))<|t_v (fun w hx=>ziO (v:=.int .u32 (((y21).toNat:Int))) zeP (H.ext hx) (k:=0) rfl rfl (zbB e21) hghr7)<|tp (ziC (v:=.int .u32 (((y20).toNat:Int))) rfl)<|zmR<|H.tn fun w25 H=>asI rfl<|wpList_nil<|zdC<|xn hK33 ?_
      refine bn hb5 fun y22 e22 hb5=>?_
      have hr8:=RL.get g22 (zaB e22).2;generalize hghr8:piece cs23 _ _=cs26 at hr8
      obtain rfl:=zmQ hr8
      refine bn hb5 fun y23 e23 hb5=>bn hb5 fun y24 e24 hb5=>bn hb5 fun y25 e25 hb5=>?_
      have hr9:=RL.get g22 (zaB e25).2;generalize hghr9:piece cs23 _ _=cs27 at hr9
      obtain rfl:=zmQ hr9
      refine bn hb5 fun y26 e26 hb5=>bn hb5 fun y27 e27 hb5=>bn hb5 fun y28 e28 hb5=>wrS H 32 [(8,.inl (.int .u32 (((y23).toNat:Int)))),(10,.inl (.int .u32 (((y24).toNat:Int)))),(23,.inl (.int .u32 (((y26).toNat:Int)))),(25,.inl (.int .u32 (((y27).toNat:Int))))] fun vs3 H=>?_
      refine tp (zaE (v:=sl b8 0 (s5.2).length c8) q35)<|tp (zaE q30)<|tp (zaE (v:=sl b8 0 (s5.2).length c8) q35)<|tp (zaE q30)<|tp (zoW rfl rfl)<|tp (zaP (i:=((w64 (s5.1-16)):Int).toNat) u129 zcD rfl (HS.ownV H (k:=0) rfl) rfl (zaB e22).1 (zbB e22)) ?_
      refine t_v (fun w hx=>ziO (v:=.int .u32 (((y22).toNat:Int))) zeP (H.ext hx) (k:=0) rfl rfl (zbB e22) hghr8)<|tp (zaE (v:=.int .u32 (((y20).toNat:Int))) rfl)<|tcx ydB (fun w hx=>zlV (H.ext hx).sub e23)<|tp (zaE (v:=.int .u32 (((y20).toNat:Int))) rfl)<|tcx ydB (fun w hx=>zlV (H.ext hx).sub e24) ?_
      refine tp (zbH (bo:=.xor) (by simp) rfl rfl (zdJ _ _))<|tp (zaE (v:=.int .u32 (((y20).toNat:Int))) rfl)<|tp (zqO rfl rfl (by decide) (zpV _ _))<|tp (zbH (bo:=.xor) (by simp) rfl rfl (zdJ _ _))<|tp (ziZ rfl rfl (zbG _))<|tp (zaE (v:=sl b8 0 (s5.2).length c8) q35)<|tp (zaE q30)<|tp (zoW rfl rfl) ?_
      refine tp (zaP (i:=((w64 (s5.1-7)):Int).toNat) u129 zcD rfl (HS.ownV H (k:=0) rfl) rfl (zaB e25).1 (zbB e25))<|t_v (fun w hx=>ziO (v:=.int .u32 (((y25).toNat:Int))) zeP (H.ext hx) (k:=0) rfl rfl (zbB e25) hghr9)<|tp (ziZ rfl rfl (zbG _))<|tp (zaE (v:=.int .u32 (((y21).toNat:Int))) rfl) ?_
      refine tcx ydB (fun w hx=>zlV (H.ext hx).sub e26)<|tp (zaE (v:=.int .u32 (((y21).toNat:Int))) rfl)<|tcx ydB (fun w hx=>zlV (H.ext hx).sub e27)<|tp (zbH (bo:=.xor) (by simp) rfl rfl (zdJ _ _))<|tp (zaE (v:=.int .u32 (((y21).toNat:Int))) rfl)<|tp (zqO rfl rfl (by decide) (zpV _ _)) ?_
      refine tp (zbH (bo:=.xor) (by simp) rfl rfl (zdJ _ _))<|tp (ziZ rfl rfl (zbG _))<|tp (zaP (i:=(s5.1:Int).toNat) u129 zcD rfl (HS.ownV H (k:=0) rfl) rfl (zaB e28).1 (zbB e28))<|zmR<|H.tn fun w26 H=>bn hb5 fun y29 e29 hb5=>?_
      refine yfK (zlU (k:=0) (l:=[Value.int .u32 ((((i32 ((((i32 ((((i32 (((y22).toNat:Int)+((((y23^^^y24)^^^(i32 (shrI .u32 ((y20).toNat:Int) 3)))).toNat:Int)))).toNat:Int)+((y25).toNat:Int)))).toNat:Int)+((((y26^^^y27)^^^(i32 (shrI .u32 ((y21).toNat:Int) 10)))).toNat:Int)))).toNat:Int))]) zcD rfl H rfl g22 rfl rfl (cells_one rfl) zyA e29) fun w27 cs28 H g23=>?_
      refine wpList_nil<|zdC<|zdM<|xn hK32<|wp_region_lit<|p_mv q30<|zaC (zdS rfl rfl)<|asI rfl<|wpList_nil<|zaJ ?_
      obtain rfl:=osi hb5
      exact⟨((w64 (s5.1+1)),y29),_,rfl,(kS k23 rfl kcx),⟨_,_,rfl,H,g23⟩,hh5⟩
     ·refine wp_exit ?_
      refine zaW<|zaW<|ziQ<|zaJ ?_
      obtain rfl:=osi hb5
      obtain rfl:=osi hh5
      obtain rfl:=osi hE11
      exact J2 _ _ _ _ (kS k23 rfl (kN k22 kcx)) H g22
    refine sr fun K23 hK23=>asI rfl<|xk hK23<|wp_block<|zbT fun m14 k17=>bn hE8 fun out4 hL4 hE9=>?_
    refine zjM (12::13::rg 74 40 []) (fun(s4:Int×(List UInt32)) (m15:FM) (w20:World)=>∃(cs16 rs13:LV),look m15 12 = .int .i64 (s4.1)∧HS ⟨S,[],w⟩ S4 w20 [.osl (v17) (s4.2).length 1 cs16 rs13 133,.osl (v12) (s3.2).length 1 cs14 rs11 133,.osl (v11) (y6).length 1 cs8 rs7 5]∧RL S4 cs16 s4.2) hL4 ⟨_,_,(k17 12),H,g18⟩ ?_
    clear H;intro k19 s4 m15 w20 k18 hI4 o10 hb4 hh4;obtain⟨cs16,rs13,q19,H,g19⟩:=hI4
    have q20:=(k18 1 rfl).trans ((k17 1).trans ((k16 1).trans ((k15 1).trans q16)))
    have q21:=(k18 5 rfl).trans ((k17 5).trans ((k16 5).trans ((k15 5).trans q17)))
    have q22:=(k18 7 rfl).trans ((k17 7).trans ((k16 7).trans ((k15 7).trans q18)))
    have q23:=(k18 10 rfl).trans ((k17 10).trans ((k16 10).trans ((k15 10).trans q15)))
    have q24:look m15 11=v17:=(k18 11 rfl).trans ((k17 11).trans (k16 11))
    refine wp_seq_k fun K24 hK24=>sr fun K25 hK25=>p_mv q19<|zaC (zfP rfl rfl)<|xk hK25 ?_
    refine zfJ hb4 rfl (fun hb4 hc5=>?_) fun hb4 hc5=>?_
    ·refine wp_skip ?_
     refine xn hK24<|wp_seq_k fun K26 hK26=>wp_block<|sr fun K27 hK27=>p_mv q23<|p_mv q19<|zaC (yeA rfl rfl)<|zaC (zdS rfl rfl)<|asI rfl ?_
     refine xk hK27<|bn hb4 fun y14 e14 hb4=>?_
     obtain⟨b3,c3,hv3⟩:=H.ownAt (k:=2) rfl (zbB e14)
     subst hv3
     have hr2:=RL.get g11 (zaB e14).2;generalize hghr2:piece cs8 _ _=cs17 at hr2
     obtain rfl:=elU8 hr2
     refine bn hb4 fun y15 e15 hb4=>?_
     have hr3:=RL.get g11 (zaB e15).2;generalize hghr3:piece cs8 _ _=cs18 at hr3
     obtain rfl:=elU8 hr3
     refine bn hb4 fun y16 e16 hb4=>?_
     have hr4:=RL.get g11 (zaB e16).2;generalize hghr4:piece cs8 _ _=cs19 at hr4
     obtain rfl:=elU8 hr4
     refine bn hb4 fun y17 e17 hb4=>?_
     have hr5:=RL.get g11 (zaB e17).2;generalize hghr5:piece cs8 _ _=cs20 at hr5
     obtain rfl:=elU8 hr5
     refine bn hb4 fun y18 e18 hb4=>?_
     obtain⟨b7,c7,hv7⟩:=H.ownAt (k:=0) rfl (zbB e18)
     subst hv7
     refine wrS H 32 [] fun vs1 H=>?_
     refine tp (zaE (v:=(sl b7 0 (s4.2).length c7)) q24)<|tp (zaE q19)<|tp (zaE (v:=(sl b3 0 (y6).length c3)) q21)<|tp (zaE (v:=.int .i64 ((w64 (s3.1+(w64 ((4:Int)*s4.1)))))) rfl)<|tp (zaP (i:=((w64 (s3.1+(w64 ((4:Int)*s4.1)))):Int).toNat) u100 tsz5 rfl rfl rfl (zaB e14).1 (zbB e14)) ?_
     refine t_v (fun w hx=>ziO (v:=.int .u8 (((y14).toNat:Int))) to5 (H.ext hx) (k:=2) rfl rfl (zbB e14) hghr2)<|tp (zhY u5 u133 rfl (zbG _))<|tp (ykU rfl rfl (by decide) (zxS _ _))<|tp (zaE (v:=sl b3 0 (y6).length c3) q21)<|tp (zaE (v:=.int .i64 ((w64 (s3.1+(w64 ((4:Int)*s4.1)))))) rfl)<|tp (zdS rfl rfl) ?_
     refine tp (zaP (i:=((w64 ((w64 (s3.1+(w64 ((4:Int)*s4.1))))+1)):Int).toNat) u100 tsz5 rfl (HS.ownV H (k:=2) rfl) rfl (zaB e15).1 (zbB e15))<|t_v (fun w hx=>ziO (v:=.int .u8 (((y15).toNat:Int))) to5 (H.ext hx) (k:=2) rfl rfl (zbB e15) hghr3)<|tp (zhY u5 u133 rfl (zbG _))<|tp (ykU rfl rfl (by decide) (zxS _ _)) ?_
     refine tp (zbH (bo:=.or) (by simp) rfl rfl (yeK _ _))<|tp (zaE (v:=sl b3 0 (y6).length c3) q21)<|tp (zaE (v:=.int .i64 ((w64 (s3.1+(w64 ((4:Int)*s4.1)))))) rfl)<|tp (zdS rfl rfl)<|tp (zaP (i:=((w64 ((w64 (s3.1+(w64 ((4:Int)*s4.1))))+2)):Int).toNat) u100 tsz5 rfl (HS.ownV H (k:=2) rfl) rfl (zaB e16).1 (zbB e16)) ?_
     refine t_v (fun w hx=>ziO (v:=.int .u8 (((y16).toNat:Int))) to5 (H.ext hx) (k:=2) rfl rfl (zbB e16) hghr4)<|tp (zhY u5 u133 rfl (zbG _))<|tp (ykU rfl rfl (by decide) (zxS _ _))<|tp (zbH (bo:=.or) (by simp) rfl rfl (yeK _ _))<|tp (zaE (v:=sl b3 0 (y6).length c3) q21)<|tp (zaE (v:=.int .i64 ((w64 (s3.1+(w64 ((4:Int)*s4.1)))))) rfl) ?_
     refine tp (zdS rfl rfl)<|tp (zaP (i:=((w64 ((w64 (s3.1+(w64 ((4:Int)*s4.1))))+3)):Int).toNat) u100 tsz5 rfl (HS.ownV H (k:=2) rfl) rfl (zaB e17).1 (zbB e17))<|t_v (fun w hx=>ziO (v:=.int .u8 (((y17).toNat:Int))) to5 (H.ext hx) (k:=2) rfl rfl (zbB e17) hghr5)<|tp (zhY u5 u133 rfl (zbG _))<|tp (zbH (bo:=.or) (by simp) rfl rfl (yeK _ _)) ?_
     refine tp (zaP (i:=(s4.1:Int).toNat) u129 zcD rfl rfl rfl (zaB e18).1 (zbB e18))<|zmR<|H.tn fun w21 H=>bn hb4 fun y19 e19 hb4=>?_
     refine yfK (zlU (k:=0) (l:=[Value.int .u32 (((((((i32 (shlI .u32 (((i32 ((y14).toNat:Int))).toNat:Int) 24))|||(i32 (shlI .u32 (((i32 ((y15).toNat:Int))).toNat:Int) 16)))|||(i32 (shlI .u32 (((i32 ((y16).toNat:Int))).toNat:Int) 8)))|||(i32 ((y17).toNat:Int)))).toNat:Int))]) zcD rfl H rfl g19 rfl rfl (cells_one rfl) zyA e19) fun w22 cs21 H g20=>wpList_nil<|zdC ?_
     refine zdM<|xn hK26<|wp_region_lit<|p_mv q19<|zaC (zdS rfl rfl)<|asI rfl<|wpList_nil<|zaJ ?_
     obtain rfl:=osi hb4
     exact⟨((w64 (s4.1+1)),y19),_,rfl,(kS k18 rfl kcx),⟨_,_,rfl,H,g20⟩,hh4⟩
    ·refine wp_exit ?_
     refine zaW<|zaW<|ziQ<|zaJ ?_
     obtain rfl:=osi hb4
     obtain rfl:=osi hh4
     obtain rfl:=osi hE9
     exact J3 _ _ _ _ (kS k18 rfl (kN k17 kcx)) H g19
   ·refine wp_exit ?_
    refine zaW<|zaW<|ziQ<|zaJ ?_
    obtain rfl:=osi hb3
    obtain rfl:=osi hh3
    obtain rfl:=osi hE6
    exact J6 _ _ _ _ _ (kS k13 rfl (kN k12 kcx)) hle4 H g17
  refine sr fun K12 hK12=>asI rfl<|xk hK12<|wp_block<|zbT fun m6 k7=>bn hE3 fun out2 hL2 hE4=>zjM (9::rg 55 12 []) (fun(s2:Int×(List UInt32)) (m7:FM) (w14:World)=>∃(cs10 rs9:LV),look m7 9 = .int .i64 (s2.1)∧HS ⟨S,[],w⟩ S3 w14 [.osl (v12) (s2.2).length 1 cs10 rs9 133,.osl (v11) (y6).length 1 cs8 rs7 5]∧RL S3 cs10 s2.2) hL2 ⟨_,_,(k7 9),H,g12⟩ ?_
  clear H;intro k9 s2 m7 w14 k8 hI2 o4 hb2 hh2;obtain⟨cs10,rs9,q7,H,g14⟩:=hI2
  have q8:=(k8 1 rfl).trans ((k7 1).trans ((k6 1).trans q6))
  have q9:look m7 5=v11:=(k8 5 rfl).trans ((k7 5).trans (k6 5))
  have q10:look m7 7=v12:=(k8 7 rfl).trans ((k7 7).trans (k6 7))
  have q11:look m7 8=v13:=(k8 8 rfl).trans ((k7 8).trans (k6 8))
  refine wp_seq_k fun K13 hK13=>sr fun K14 hK14=>p_mv q7<|zaC (zfP rfl rfl)<|xk hK14 ?_
  refine zfJ hb2 rfl (fun hb2 hc2=>?_) fun hb2 hc2=>?_
  ·refine wp_skip ?_
   refine xn hK13<|wp_seq_k fun K15 hK15=>wp_block<|wp_region_lit<|p_mv (v:=v12) q10<|p_mv q7<|p_mv (v:=v13) q11<|p_mv q7<|bn hb2 fun y9 e9 hb2=>?_
   obtain⟨b1,o5,N1,c1,cs11,hv1,hi1,hc3,hr1⟩:=g13.get (zaB e9).2
   refine zaC (zaP (i:=(s2.1:Int).toNat) u152 zsI rfl hv1 rfl (zaB e9).1 hi1) ?_
   obtain rfl:=ykQ hr1
   refine zaC (zdK (p:=(o5+(s2.1:Int).toNat*1)) (o:=0) (v:=.int .u64 (((y9).toNat:Int))) yjH H.sub rfl hc3 rfl)<|bn hb2 fun y10 e10 hb2=>zeX is120 rfl<|(yiB H.sub e10).mono<|H.xe fun w15 H=>bn hb2 fun y11 e11 hb2=>?_
   obtain⟨b2,c2,hv2⟩:=H.ownAt (k:=0) rfl (zbB e11)
   refine zaC (zaP (i:=(s2.1:Int).toNat) u129 zcD rfl hv2 rfl (zaB e11).1 (zbB e11)) ?_
   subst hv2
   refine bn hb2 fun y12 e12 hb2=>yfK (zlU (k:=0) (l:=[Value.int .u32 (((y10).toNat:Int))]) zcD rfl H rfl g14 rfl rfl (cells_one rfl) zyA e12) fun w16 cs12 H g15=>wpList_nil<|zdM<|xn hK15<|wp_region_lit<|p_mv q7<|zaC (zdS rfl rfl)<|asI rfl ?_
   refine wpList_nil<|zaJ ?_
   obtain rfl:=osi hb2
   exact⟨((w64 (s2.1+1)),y12),_,rfl,(kS k8 rfl kcx),⟨_,_,rfl,H,g15⟩,hh2⟩
  ·refine wp_exit ?_
   refine zaW<|zaW<|ziQ<|zaJ ?_
   obtain rfl:=osi hb2
   obtain rfl:=osi hh2
   obtain rfl:=osi hE4
   exact J7 _ _ _ _ (kS k8 rfl (kN k7 kcx)) H g14
 refine wp_block<|zbT fun m2 k2=>bn hE1 fun out1 hL1 hE2=>zjM (5::rg 30 7 []) (fun(s1:Bs) (m3:FM) (w4:World)=>∃(v4:Value) (cs3 rs3:LV),look m3 5=v4∧HS ⟨S,[],w⟩ S w4 [.osl (v4) (s1).length 1 cs3 rs3 5]∧RL S cs3 s1) hL1 ⟨_,_,_,(show _=(v3:Value)from((k2 5).trans (k1 5))),H,g3⟩ ?_
 clear H;intro k4 s1 m3 w4 k3 hI1 o2 hb1 hh1;obtain⟨v4,cs3,rs3,q1,H,g4⟩:=hI1
 have q2:look m3 0=str (x0):=(k3 0 rfl).trans ((k2 0).trans (k1 0))
 have q3:look m3 1=v1_:=(k3 1 rfl).trans ((k2 1).trans (k1 1))
 refine wp_seq_k fun K4 hK4=>sr fun K5 hK5=>p_mv (v:=v4) q1<|zaC (zwZ u100 rfl H (k:=0) rfl rfl)<|zaC (xbX (r:=Int.tmod ((s1).length:Int) 64) rfl rfl (by decide) rfl)<|zaC (yoG rfl rfl)<|xk hK5 ?_
 refine zfJ hb1 rfl (fun hb1 hc1=>?_) fun hb1 hc1=>?_
 ·refine wp_skip ?_
  refine xn hK4<|wp_block<|wp_region_lit<|p_mv (v:=v4) q1<|zxX (zfS (N:=1) (xs:=([0]:Bs)) (RL.cons (ylO (x:=(0:UInt8)) rfl) RL.nil) znF H rfl rfl rfl) fun w5 v5 cs4 H g5=>bn hb1 fun y2 e2 hb1=>zvI (zgF (k:=1) (v2:=v5) znF rfl H rfl rfl g4 rfl (H.slW (k:=0) rfl) g5 e2) fun w6 v6 cs5 rs4 H g6=>?_
  replace H:=H.sel [1] rfl
  replace H:=hsn H
  refine p_as (v:=v6) rfl<|wpList_nil<|zdM<|zaJ ?_
  obtain rfl:=osi hb1
  exact⟨y2,_,rfl,(kS k3 rfl kcx),⟨_,_,_,rfl,H,g6⟩,hh1⟩
 ·refine wp_exit ?_
  refine zaW<|zaW<|ziQ<|zaJ ?_
  obtain rfl:=osi hb1
  obtain rfl:=osi hh1
  obtain rfl:=osi hE2
  exact J8 _ _ _ _ _ (kS k3 rfl (kN k2 kcx)) (show _=(v4:Value)from q1) H g4
def ztW(y1:(List UInt64))(s1:Int×(List UInt32)):Option ((Int×(List UInt32))⊕((List UInt32))):=
  bif decide (s1.1<64)then(Option.bind (idx y1 s1.1) fun y2=>Option.bind (zqT y2 3) fun y3=>Option.bind (app s1.2 ([y3]:List UInt32)) fun y4=>some (.inl (((w64 (s1.1+1)),y4))))else(some (.inr (s1.2)))
def zxD :Option ((List UInt32)):=
  Option.bind (znZ 64) fun y1=>Option.bind (Option.bind (iter (ztW y1) ((0,([]:List UInt32)))) (fun e=>some (e))) (fun t1=>some (t1))
theorem yxP (hS : Sub S w)  {r : (List UInt32)} (hF : zxD = some r) :
    Calls Tryz.prog 93 #[] w fun e w'=>Ext w w'∧∃(v0':Value),e = .returned (v0')∧RdS (gr S w w') v0' r:=by
 refine enter (n:=19) Tryz.func93 rfl rfl rfl ?_
 have H:=HS.start hS
 refine sr fun K1 hK1=>asN rfl<|xk hK1<|sr fun K2 hK2=>?_
 have g1:RL S ([]:LV) ([]:List UInt32):=RL.nil
 refine zxE (zlW (N:=0) (vals:=[]) (l:=([]:LV)) ykF H rfl rfl rfl g1.len) fun w1 v1 H=>p_as (v:=v1) rfl<|xk hK2<|sr fun K3 hK3=>bn hF fun y1 e1 hF=>zeX is119 rfl<|(ycF H.sub e1).mono<|H.ye fun w2 v2 S1 hle1 H g2=>?_
 replace g1:=g1.mono hle1
 refine p_as (v:=v2) rfl<|xk hK3<|wp_seq_k fun K4 hK4=>zbT fun m1 k1=>bn hF fun t1 hE1 hF1=>?_
 have J1:∀(v6:Value) (cs6 rs3:LV) (m4:FM) (w7:World),Kp (1::3::rg 6 12 []) m4 m1→look m4 1=v6→HS ⟨S,[],w⟩ S1 w7 [.osl (v6) (t1).length 1 cs6 rs3 133]→RL S1 cs6 t1→K4 (fr 19 m4) w7:=by
  clear H;intro v6 cs6 rs3 m4 w7 k5 q4 H g6
  refine hK4 _ _<|sr fun K9 hK9=>p_mv (v:=v6) q4<|p_as (v:=v6) rfl<|xk hK9<|wp_ret ?_
  obtain⟨S2,hle2,g7,H1⟩:=H.fixX (k:=0) rfl g6;clear H;have H:=H1;clear H1
  replace H:=hsn H
  obtain rfl:=osi hF1
  refine e_1 rfl (ziX rfl) ?_
  exact⟨H.toExt,_,rfl,RdS.mono g7 H.gr⟩
 refine sr fun K5 hK5=>asI rfl<|xk hK5<|wp_block<|zbT fun m2 k2=>bn hE1 fun out1 hL1 hE2=>?_
 refine zjM (1::3::rg 6 12 []) (fun(s1:Int×(List UInt32)) (m3:FM) (w3:World)=>∃(v3:Value) (cs2 rs1:LV),look m3 1=v3∧look m3 3 = .int .i64 (s1.1)∧HS ⟨S,[],w⟩ S1 w3 [.osl (v3) (s1.2).length 1 cs2 rs1 133]∧RL S1 cs2 s1.2) hL1 ⟨_,_,_,(show _=(v1:Value)from((k2 1).trans (k1 1))),(k2 3),H,g1⟩ ?_
 clear H;intro k4 s1 m3 w3 k3 hI1 o2 hb1 hh1;obtain⟨v3,cs2,rs1,q1,q2,H,g3⟩:=hI1
 have q3:look m3 2=v2:=(k3 2 rfl).trans ((k2 2).trans (k1 2))
 refine wp_seq_k fun K6 hK6=>sr fun K7 hK7=>p_mv q2<|zaC (zfP rfl rfl)<|xk hK7 ?_
 refine zfJ hb1 rfl (fun hb1 hc1=>?_) fun hb1 hc1=>?_
 ·refine wp_skip ?_
  refine xn hK6<|wp_seq_k fun K8 hK8=>wp_block<|wp_region_lit<|p_mv (v:=v3) q1<|p_mv (v:=v2) q3<|p_mv q2<|bn hb1 fun y2 e2 hb1=>?_
  obtain⟨b1,o3,N1,c1,cs3,hv1,hi1,hc2,hr1⟩:=g2.get (zaB e2).2
  refine zaC (zaP (i:=(s1.1:Int).toNat) u152 zsI rfl hv1 rfl (zaB e2).1 hi1) ?_
  obtain rfl:=ykQ hr1
  refine zaC (zdK (p:=(o3+(s1.1:Int).toNat*1)) (o:=0) (v:=.int .u64 y2.I) yjH H.sub rfl hc2 rfl)<|bn hb1 fun y3 e3 hb1=>zeX is120 rfl<|(yiB H.sub e3).mono<|H.xe fun w4 H=>zxX (zfS (N:=1) (xs:=([y3]:List UInt32)) (RL.cons zyA RL.nil) ykF H rfl rfl rfl) fun w5 v4 cs4 H g4=>bn hb1 fun y4 e4 hb1=>?_
  refine zvI (zgF (k:=1) (v2:=v4) ykF rfl H rfl rfl g3 rfl (H.slW (k:=0) rfl) g4 e4) fun w6 v5 cs5 rs2 H g5=>?_
  replace H:=H.sel [1] rfl
  replace H:=hsn H
  refine p_as (v:=v5) rfl<|wpList_nil<|zdM<|xn hK8<|wp_region_lit<|p_mv q2<|zaC (zdS rfl rfl)<|asI rfl<|wpList_nil ?_
  refine zaJ ?_
  obtain rfl:=osi hb1
  exact⟨((w64 (s1.1+1)),y4),_,rfl,(kS k3 rfl kcx),⟨_,_,_,rfl,rfl,H,g5⟩,hh1⟩
 ·refine wp_exit ?_
  refine zaW<|zaW<|ziQ<|zaJ ?_
  obtain rfl:=osi hb1
  obtain rfl:=osi hh1
  obtain rfl:=osi hE2
  exact J1 _ _ _ _ _ (kS k3 rfl (kN k2 kcx)) (show _=(v3:Value)from q1) H g3
def zlZ(s1:Bs):Option ((Bs)⊕(Bs)):=
  bif decide (((s1).length:Int)<64)then(Option.bind (app s1 ([0]:Bs)) fun y2=>some (.inl (y2)))else(some (.inr (s1)))
def zpI(x1:UInt8)(s2:Int×Bs):Option ((Int×Bs)⊕(Bs)):=
  bif decide (s2.1<64)then(Option.bind (idx s2.2 s2.1) fun y3=>Option.bind (idx s2.2 s2.1) fun _y4=>Option.bind (setL s2.2 (s2.1:Int) (y3^^^x1)) fun y5=>some (.inl (((w64 (s2.1+1)),y5))))else(some (.inr (s2.2)))
def zoR(x0:Bs)(x1:UInt8)(x2:List UInt32):Option (Bs):=
  Option.bind (bif decide ((64:Int)<((x0).length:Int))then(Option.bind (zqZ x0 x2) fun y1=>some (y1))else(some (x0))) (fun t1=>Option.bind (Option.bind (iter (zlZ) (t1)) (fun e=>some (e))) (fun t2=>Option.bind (Option.bind (iter (zpI x1) ((0,t2))) (fun e=>some (e))) (fun t3=>some (t3))))
theorem yaO (hS : Sub S w) {x0 : Bs} {x1 : UInt8} {v2_ : Value} {x2 : List UInt32} (h2_ : RdS S v2_ x2) {r : Bs} (hF : zoR x0 x1 x2 = some r) :
    Calls Tryz.prog 122 #[str (x0),.int .u8 (((x1).toNat:Int)),v2_] w fun e w'=>e = .returned (str (r))∧Ext w w':=by
 refine enter (n:=36) Tryz.func122 rfl rfl rfl ?_
 have H:=HS.start hS
 refine sr fun K1 hK1=>asT rfl<|xk hK1<|wp_seq_k fun K2 hK2=>zbT fun m1 k1=>bn hF fun t1 hE1 hF1=>?_
 have J3:∀(m2:FM) (w2:World),Kp (0::rg 9 6 []) m2 m1→look m2 0=str (t1)→HS ⟨S,[],w⟩ S w2 []→K2 (fr 36 m2) w2:=by
  clear H;intro m2 w2 k2 q1 H
  have q2:look m2 1 = .int .u8 (((x1).toNat:Int)):=(k2 1 rfl).trans (k1 1)
  refine hK2 _ _<|sr fun K4 hK4=>p_mv q1<|zxE (yhI (l:=t1) u9 u100 u5 H rfl) ?_;clear H;rintro w3 v1 ⟨rs1,H⟩
  have g1:RL S (u8s t1) t1:=RL.of_u8s _
  refine p_as (v:=v1) rfl<|xk hK4<|wp_seq_k fun K5 hK5=>zbT fun m3 k3=>bn hF1 fun t2 hE2 hF2=>?_
  have J2:∀(v5:Value) (cs4 rs4:LV) (m6:FM) (w7:World),Kp (7::rg 17 6 []) m6 m3→look m6 7=v5→HS ⟨S,[],w⟩ S w7 [.osl (v5) (t2).length 1 cs4 rs4 5]→RL S cs4 t2→K5 (fr 36 m6) w7:=by
   clear H;intro v5 cs4 rs4 m6 w7 k7 q5 H g5
   have q6:=(k7 1 rfl).trans ((k3 1).trans q2)
   refine hK5 _ _<|wp_seq_k fun K8 hK8=>zbT fun m7 k8=>bn hF2 fun t3 hE4 hF3=>?_
   have J1:∀(cs8 rs6:LV) (m10:FM) (w10:World),Kp (8::rg 23 11 []) m10 m7→HS ⟨S,[],w⟩ S w10 [.osl (v5) (t3).length 1 cs8 rs6 5]→RL S cs8 t3→K8 (fr 36 m10) w10:=by
    clear H;intro cs8 rs6 m10 w10 k12 H g8
    have q10:=(k12 7 rfl).trans ((k8 7).trans q5)
    refine hK8 _ _<|sr fun K13 hK13=>p_mv (v:=v5) q10<|zaC (ykN u100 u5 u9 rfl H (k:=0) rfl g8)<|asT rfl<|xk hK13<|wp_ret ?_
    obtain rfl:=osi hF3
    refine e_1 rfl (ziX rfl) ?_
    exact⟨rfl,H.toExt⟩
   refine sr fun K9 hK9=>asI rfl<|xk hK9<|wp_block<|zbT fun m8 k9=>bn hE4 fun out2 hL2 hE5=>zjM (8::rg 23 11 []) (fun(s2:Int×Bs) (m9:FM) (w8:World)=>∃(cs5 rs5:LV),look m9 8 = .int .i64 (s2.1)∧HS ⟨S,[],w⟩ S w8 [.osl (v5) (s2.2).length 1 cs5 rs5 5]∧RL S cs5 s2.2) hL2 ⟨_,_,(k9 8),H,g5⟩ ?_
   clear H;intro k11 s2 m9 w8 k10 hI2 o5 hb2 hh2;obtain⟨cs5,rs5,q7,H,g6⟩:=hI2
   have q8:=(k10 1 rfl).trans ((k9 1).trans ((k8 1).trans q6))
   have q9:=(k10 7 rfl).trans ((k9 7).trans ((k8 7).trans q5))
   refine wp_seq_k fun K10 hK10=>sr fun K11 hK11=>p_mv q7<|zaC (zfP rfl rfl)<|xk hK11 ?_
   refine zfJ hb2 rfl (fun hb2 hc3=>?_) fun hb2 hc3=>?_
   ·refine wp_skip ?_
    refine xn hK10<|wp_seq_k fun K12 hK12=>wp_block<|wp_region_lit<|p_mv (v:=v5) q9<|p_mv q7<|bn hb2 fun y3 e3 hb2=>?_
    obtain⟨b1,c1,hv1⟩:=H.ownAt (k:=0) rfl (zbB e3)
    refine zaC (zaP (i:=(s2.1:Int).toNat) u100 tsz5 rfl hv1 rfl (zaB e3).1 (zbB e3)) ?_
    subst hv1
    have hr1:=RL.get g6 (zaB e3).2;generalize hghr1:piece cs5 _ _=cs6 at hr1
    obtain rfl:=elU8 hr1
    refine zaC (ziO (v:=.int .u8 (((y3).toNat:Int))) to5 H (k:=0) rfl rfl (zbB e3) hghr1)<|p_mv q8<|zaC (zbH (bo:=.xor) (by simp) rfl rfl (yjA _ _))<|bn hb2 fun y4 e4 hb2=>zaC (zaP (i:=(s2.1:Int).toNat) u100 tsz5 rfl (HS.ownV H (k:=0) rfl) rfl (zaB e4).1 (zbB e4))<|bn hb2 fun y5 e5 hb2=>?_
    refine yfK (zlU (k:=0) (l:=[Value.int .u8 ((((y3^^^x1)).toNat:Int))]) tsz5 rfl H rfl g6 rfl rfl (cells_one rfl) rpU8 e5) fun w9 cs7 H g7=>wpList_nil<|zdM<|xn hK12<|wp_region_lit<|p_mv q7<|zaC (zdS rfl rfl)<|asI rfl<|wpList_nil ?_
    refine zaJ ?_
    obtain rfl:=osi hb2
    exact⟨((w64 (s2.1+1)),y5),_,rfl,(kS k10 rfl kcx),⟨_,_,rfl,H,g7⟩,hh2⟩
   ·refine wp_exit ?_
    refine zaW<|zaW<|ziQ<|zaJ ?_
    obtain rfl:=osi hb2
    obtain rfl:=osi hh2
    obtain rfl:=osi hE5
    exact J1 _ _ _ _ (kS k10 rfl (kN k9 kcx)) H g6
  refine wp_block<|zbT fun m4 k4=>bn hE2 fun out1 hL1 hE3=>zjM (7::rg 17 6 []) (fun(s1:Bs) (m5:FM) (w4:World)=>∃(v2:Value) (cs1 rs2:LV),look m5 7=v2∧HS ⟨S,[],w⟩ S w4 [.osl (v2) (s1).length 1 cs1 rs2 5]∧RL S cs1 s1) hL1 ⟨_,_,_,(show _=(v1:Value)from((k4 7).trans (k3 7))),H,g1⟩ ?_
  clear H;intro k6 s1 m5 w4 k5 hI1 o3 hb1 hh1;obtain⟨v2,cs1,rs2,q3,H,g2⟩:=hI1
  have q4:=(k5 1 rfl).trans ((k4 1).trans ((k3 1).trans q2))
  refine wp_seq_k fun K6 hK6=>sr fun K7 hK7=>p_mv (v:=v2) q3<|zaC (zwZ u100 rfl H (k:=0) rfl rfl)<|zaC (zfP rfl rfl)<|xk hK7 ?_
  refine zfJ hb1 rfl (fun hb1 hc2=>?_) fun hb1 hc2=>?_
  ·refine wp_skip ?_
   refine xn hK6<|wp_block<|wp_region_lit<|p_mv (v:=v2) q3<|zxX (zfS (N:=1) (xs:=([0]:Bs)) (RL.cons (ylO (x:=(0:UInt8)) rfl) RL.nil) znF H rfl rfl rfl) fun w5 v3 cs2 H g3=>bn hb1 fun y2 e2 hb1=>zvI (zgF (k:=1) (v2:=v3) znF rfl H rfl rfl g2 rfl (H.slW (k:=0) rfl) g3 e2) fun w6 v4 cs3 rs3 H g4=>?_
   replace H:=H.sel [1] rfl
   replace H:=hsn H
   refine p_as (v:=v4) rfl<|wpList_nil<|zdM<|zaJ ?_
   obtain rfl:=osi hb1
   exact⟨y2,_,rfl,(kS k5 rfl kcx),⟨_,_,_,rfl,H,g4⟩,hh1⟩
  ·refine wp_exit ?_
   refine zaW<|zaW<|ziQ<|zaJ ?_
   obtain rfl:=osi hb1
   obtain rfl:=osi hh1
   obtain rfl:=osi hE3
   exact J2 _ _ _ _ _ (kS k5 rfl (kN k4 kcx)) (show _=(v2:Value)from q3) H g2
 refine sr fun K3 hK3=>p_mv (k1 0)<|zaC (zqM (N:=(x0).length) u9 rfl rfl)<|zaC (yaE rfl rfl)<|xk hK3 ?_
 refine zfJ hE1 rfl (fun hE1 hc1=>?_) fun hE1 hc1=>?_
 ·refine wp_region_lit ?_
  refine p_mv (k1 0)<|p_mv (v:=v2_) (k1 2)<|bn hE1 fun y1 e1 hE1=>zeX is121 rfl<|(yfR H.sub h2_ e1).mono<|H.xe fun w1 H=>asT rfl<|wpList_nil<|zaJ ?_
  obtain rfl:=osi hE1
  exact J3 _ _ kcx rfl H
 ·refine wp_skip ?_
  refine zaJ ?_
  obtain rfl:=osi hE1
  exact J3 _ _ kcx (k1 0) H
def zwX(x0:Bs)(x1:Bs)(x2:List UInt32):Option (Bs):=
  Option.bind (zoR x0 (92:UInt8) x2) fun y1=>Option.bind (zoR x0 (54:UInt8) x2) fun y2=>Option.bind (app y2 x1) fun y3=>Option.bind (zqZ y3 x2) fun y4=>Option.bind (app y1 y4) fun y5=>Option.bind (zqZ y5 x2) fun y6=>some (y6)
theorem xbC (hS : Sub S w) {x0 : Bs} {x1 : Bs} {v2_ : Value} {x2 : List UInt32} (h2_ : RdS S v2_ x2) {r : Bs} (hF : zwX x0 x1 x2 = some r) :
    Calls Tryz.prog 94 #[str (x0),str (x1),v2_] w fun e w'=>e = .returned (str (r))∧Ext w w':=by
 refine enter (n:=20) Tryz.func94 rfl rfl rfl ?_
 have H:=HS.start hS
 refine sr fun K1 hK1=>asT rfl<|xk hK1<|sr fun K2 hK2=>mvT rfl<|p_mv (v:=v2_) rfl<|bn hF fun y1 e1 hF=>zeX is122 rfl<|(yaO H.sub h2_ e1).mono<|H.xe fun w1 H=>?_
 refine mvT rfl<|p_mv (v:=v2_) rfl<|bn hF fun y2 e2 hF=>zeX is122 rfl<|(yaO H.sub h2_ e2).mono<|H.xe fun w2 H=>mvT rfl<|bn hF fun y3 e3 hF=>zaC (ylP (r:=y3) rfl rfl (by have:=(zcW e3).1;omega) (zcW e3).2) ?_
 refine p_mv (v:=v2_) rfl<|bn hF fun y4 e4 hF=>zeX is121 rfl<|(yfR H.sub h2_ e4).mono<|H.xe fun w3 H=>bn hF fun y5 e5 hF=>zaC (ylP (r:=y5) rfl rfl (by have:=(zcW e5).1;omega) (zcW e5).2) ?_
 refine p_mv (v:=v2_) rfl<|bn hF fun y6 e6 hF=>zeX is121 rfl<|(yfR H.sub h2_ e6).mono<|H.xe fun w4 H=>asT rfl<|xk hK2<|wp_ret ?_
 obtain rfl:=osi hF
 refine e_1 rfl (ziX rfl) ?_
 exact⟨rfl,H.toExt⟩
def zpH(x0:Bs)(x1:Bs):Option (Bs):=
  Option.bind (zxD) fun y1=>Option.bind (zwX x0 x1 y1) fun y2=>some (y2)
end
end Go.Proofs.YtmkomlbiaebddaaGreatDoor
