/- What some functions compute, and that they do. Steps of a walk: bytes copied into an own slice, a new row of whatever bytes, a slice's capacity cut. Plain laws of the words that walks are told in: loops, lists, bytes. Conditions: as each theorem says. -/
import Derived.Test.YtmkomlbiaebddaaGreatDoorRows
import Derived.Lib.MakeNoZero
import Derived.KernelRfl
import Derived.Test.YtmkomlbiaebddaaGreatDoorQdC
namespace Go.Proofs.YtmkomlbiaebddaaGreatDoor
open Go Go.RowKit
section
attribute [local irreducible] wpList wpT Code.wp Calls Code.rounds
variable {S:Mem}{w:World}
abbrev kvec:Vec UInt32 64:=(⟨[(1116352408:UInt32),(1899447441:UInt32),(3049323471:UInt32),(3921009573:UInt32),(961987163:UInt32),(1508970993:UInt32),(2453635748:UInt32),(2870763221:UInt32),(3624381080:UInt32),(310598401:UInt32),(607225278:UInt32),(1426881987:UInt32),(1925078388:UInt32),(2162078206:UInt32),(2614888103:UInt32),(3248222580:UInt32),(3835390401:UInt32),(4022224774:UInt32),(264347078:UInt32),(604807628:UInt32),(770255983:UInt32),(1249150122:UInt32),(1555081692:UInt32),(1996064986:UInt32),(2554220882:UInt32),(2821834349:UInt32),(2952996808:UInt32),(3210313671:UInt32),(3336571891:UInt32),(3584528711:UInt32),(113926993:UInt32),(338241895:UInt32),(666307205:UInt32),(773529912:UInt32),(1294757372:UInt32),(1396182291:UInt32),(1695183700:UInt32),(1986661051:UInt32),(2177026350:UInt32),(2456956037:UInt32),(2730485921:UInt32),(2820302411:UInt32),(3259730800:UInt32),(3345764771:UInt32),(3516065817:UInt32),(3600352804:UInt32),(4094571909:UInt32),(275423344:UInt32),(430227734:UInt32),(506948616:UInt32),(659060556:UInt32),(883997877:UInt32),(958139571:UInt32),(1322822218:UInt32),(1537002063:UInt32),(1747873779:UInt32),(1955562222:UInt32),(2024104815:UInt32),(2227730452:UInt32),(2361852424:UInt32),(2428436474:UInt32),(2756734187:UInt32),(3204031479:UInt32),(3329325298:UInt32)],rfl⟩:Vec UInt32 64)
theorem tg157:TAgg Tryz.prog 157 64:=⟨fun _=>by kernel_rfl,fun _=>by kernel_rfl⟩
theorem yvT:TAgg Tryz.prog 160 8:=⟨fun _=>by kernel_rfl,fun _=>by kernel_rfl⟩
theorem zeP:TOne Tryz.prog 133:=⟨fun _=>by kernel_rfl,fun _=>by kernel_rfl⟩
theorem yzR:yfJ Tryz.prog 157 (.agg #[.int .u32 0,.int .u32 0,.int .u32 0,.int .u32 0,.int .u32 0,.int .u32 0,.int .u32 0,.int .u32 0,.int .u32 0,.int .u32 0,.int .u32 0,.int .u32 0,.int .u32 0,.int .u32 0,.int .u32 0,.int .u32 0,.int .u32 0,.int .u32 0,.int .u32 0,.int .u32 0,.int .u32 0,.int .u32 0,.int .u32 0,.int .u32 0,.int .u32 0,.int .u32 0,.int .u32 0,.int .u32 0,.int .u32 0,.int .u32 0,.int .u32 0,.int .u32 0,.int .u32 0,.int .u32 0,.int .u32 0,.int .u32 0,.int .u32 0,.int .u32 0,.int .u32 0,.int .u32 0,.int .u32 0,.int .u32 0,.int .u32 0,.int .u32 0,.int .u32 0,.int .u32 0,.int .u32 0,.int .u32 0,.int .u32 0,.int .u32 0,.int .u32 0,.int .u32 0,.int .u32 0,.int .u32 0,.int .u32 0,.int .u32 0,.int .u32 0,.int .u32 0,.int .u32 0,.int .u32 0,.int .u32 0,.int .u32 0,.int .u32 0,.int .u32 0]):=fun _=>by kernel_rfl
theorem xaK:yfJ Tryz.prog 160 (.agg #[.int .u32 0,.int .u32 0,.int .u32 0,.int .u32 0,.int .u32 0,.int .u32 0,.int .u32 0,.int .u32 0]):=fun _=>by kernel_rfl
theorem u3:Tryz.prog.underlying 3=some (.int .i64):=by kernel_rfl
theorem u5:Tryz.prog.underlying 5=some (.int .u8):=by kernel_rfl
theorem u9:Tryz.prog.underlying 9=some .string:=by kernel_rfl
theorem u100:Tryz.prog.underlying 100=some (.slice 5):=by kernel_rfl
theorem u102:Tryz.prog.underlying 102=some (.int .u64):=by kernel_rfl
theorem u129:Tryz.prog.underlying 129=some (.slice 133):=by kernel_rfl
theorem u133:Tryz.prog.underlying 133=some (.int .u32):=by kernel_rfl
theorem u139:Tryz.prog.underlying 139=some (.int .u64):=by kernel_rfl
theorem u157:Tryz.prog.underlying 157=some (.array 64 133):=by kernel_rfl
theorem u160:Tryz.prog.underlying 160=some (.array 8 133):=by kernel_rfl
theorem is118:IsFn Tryz.prog 118:=isFn Tryz.func118
theorem is124:IsFn Tryz.prog 124:=isFn Tryz.func124
theorem is125:IsFn Tryz.prog 125:=isFn Tryz.func125
theorem is159:IsFn Tryz.prog 159:=isFn Tryz.func159
theorem ydC:IsFn Tryz.prog 160:=isFn Tryz.func160
theorem is161:IsFn Tryz.prog 161:=isFn Tryz.func161
theorem zmT(w:World):(sizeOf 133).run Tryz.prog w = .ok 1 w:=by kernel_rfl
theorem tb157:yaV Tryz.prog 157 (.agg #[.int .u32 0,.int .u32 0,.int .u32 0,.int .u32 0,.int .u32 0,.int .u32 0,.int .u32 0,.int .u32 0,.int .u32 0,.int .u32 0,.int .u32 0,.int .u32 0,.int .u32 0,.int .u32 0,.int .u32 0,.int .u32 0,.int .u32 0,.int .u32 0,.int .u32 0,.int .u32 0,.int .u32 0,.int .u32 0,.int .u32 0,.int .u32 0,.int .u32 0,.int .u32 0,.int .u32 0,.int .u32 0,.int .u32 0,.int .u32 0,.int .u32 0,.int .u32 0,.int .u32 0,.int .u32 0,.int .u32 0,.int .u32 0,.int .u32 0,.int .u32 0,.int .u32 0,.int .u32 0,.int .u32 0,.int .u32 0,.int .u32 0,.int .u32 0,.int .u32 0,.int .u32 0,.int .u32 0,.int .u32 0,.int .u32 0,.int .u32 0,.int .u32 0,.int .u32 0,.int .u32 0,.int .u32 0,.int .u32 0,.int .u32 0,.int .u32 0,.int .u32 0,.int .u32 0,.int .u32 0,.int .u32 0,.int .u32 0,.int .u32 0,.int .u32 0]) [(0,1),(1,1),(2,1),(3,1),(4,1),(5,1),(6,1),(7,1),(8,1),(9,1),(10,1),(11,1),(12,1),(13,1),(14,1),(15,1),(16,1),(17,1),(18,1),(19,1),(20,1),(21,1),(22,1),(23,1),(24,1),(25,1),(26,1),(27,1),(28,1),(29,1),(30,1),(31,1),(32,1),(33,1),(34,1),(35,1),(36,1),(37,1),(38,1),(39,1),(40,1),(41,1),(42,1),(43,1),(44,1),(45,1),(46,1),(47,1),(48,1),(49,1),(50,1),(51,1),(52,1),(53,1),(54,1),(55,1),(56,1),(57,1),(58,1),(59,1),(60,1),(61,1),(62,1),(63,1)]:=ynB u157 yzR zmT rfl
theorem tb160:yaV Tryz.prog 160 (.agg #[.int .u32 0,.int .u32 0,.int .u32 0,.int .u32 0,.int .u32 0,.int .u32 0,.int .u32 0,.int .u32 0]) [(0,1),(1,1),(2,1),(3,1),(4,1),(5,1),(6,1),(7,1)]:=ynB u160 xaK zmT rfl
theorem znF:TSn Tryz.prog 100 5 (.int .u8 0) [.int .u8 0] 1 1:=TSn.mk' (by kernel_rfl) (by kernel_rfl) rfl rfl rfl rfl
def zfO(x:Qs):LV:=[Value.int .u32 ((x.1.toNat:Int))]++([Value.int .u32 ((x.2.1.toNat:Int))]++([Value.int .u32 ((x.2.2.1.toNat:Int))]++([Value.int .u32 ((x.2.2.2.1.toNat:Int))]++([Value.int .u32 ((x.2.2.2.2.1.toNat:Int))]++([Value.int .u32 ((x.2.2.2.2.2.1.toNat:Int))]++([Value.int .u32 ((x.2.2.2.2.2.2.1.toNat:Int))]++([Value.int .u32 ((x.2.2.2.2.2.2.2.toNat:Int))])))))))
theorem tsz5:TSz Tryz.prog 5 1:=fun _=>by kernel_rfl
theorem zcD:TSz Tryz.prog 133 1:=fun _=>by kernel_rfl
theorem xdX:TSz Tryz.prog 157 64:=fun _=>by kernel_rfl
theorem yqL:TSz Tryz.prog 160 8:=fun _=>by kernel_rfl
def zfN(x0:UInt32)(x1:Int):Option (UInt32):=
  some (((i32 (shlI .u32 ((x0).toNat:Int) ((((i64 x1)&&&(31:UInt64))).toNat:Int)))|||(i32 (shrI .u32 ((x0).toNat:Int) (((i64 ((32:Int)-((((i64 x1)&&&(31:UInt64))).toNat:Int)))).toNat:Int)))))
theorem zqU (hS : Sub S w) {x0 : UInt32} {x1 : Int} {r : UInt32} (hF : zfN x0 x1 = some r) :
    Calls Tryz.prog 161 #[.int .u32 (((x0).toNat:Int)),.int .i64 (x1)] w fun e w'=>e = .returned (.int .u32 (((r).toNat:Int)))∧Ext w w':=by
 refine enter (n:=17) Tryz.func161 rfl rfl rfl ?_
 have H:=HS.start hS
 refine sr fun K1 hK1=>asI rfl<|xk hK1<|sr fun K2 hK2=>mvI rfl<|zaC (zhY u3 u139 rfl (zbR _))<|zaC (zbH (bo:=.and) (by simp) rfl rfl (zqA _ (31:UInt64)))<|asI rfl<|xk hK2 ?_
 refine sr fun K3 hK3=>mvI rfl<|mvI rfl<|zaC (ykU rfl rfl (by omega) (zxS _ _))<|mvI rfl<|mvI rfl<|zaC (r_sub rfl rfl (zbR _))<|zaC (zqO rfl rfl (by omega) (zpV _ _))<|zaC (zbH (bo:=.or) (by simp) rfl rfl (yeK _ _)) ?_
 refine asI rfl<|xk hK3<|wp_ret ?_
 obtain rfl:=osi hF
 refine e_1 rfl (ziX rfl) ?_
 exact⟨rfl,H.toExt⟩
def zfC(x1:UInt64)(s1:Int×Bs):Option ((Int×Bs)⊕(Bs)):=
  bif decide ((0:Int)≤s1.1)then(Option.bind (chk (decide (0≤(w64 ((8:Int)*s1.1))))) fun _y1=>Option.bind (app s1.2 ([(i8 (((i64 (shrI .u64 ((x1).toNat:Int) (w64 ((8:Int)*s1.1))))).toNat:Int))]:Bs)) fun y2=>some (.inl (((w64 (s1.1-1)),y2))))else(some (.inr (s1.2)))
def zqG(x0:Bs)(x1:UInt64)(x2:Int):Option (Bs):=
  Option.bind (Option.bind (iter (zfC x1) (((w64 (x2-1)),x0))) (fun e=>some (e))) (fun t1=>some (t1))
theorem ydM {x0 : Bs} {pv1 : Value} {pcs1 prs1 : LV} (H : HS ⟨S, zbJ [.osl (pv1) (x0).length 1 pcs1 prs1 5], w⟩ S w [.osl (pv1) (x0).length 1 pcs1 prs1 5]) (pg1 : RL S pcs1 x0) {x1 : UInt64} {x2 : Int} {r : Bs} (hF : zqG x0 x1 x2 = some r) :
    Calls Tryz.prog 118 #[pv1,.int .u64 (((x1).toNat:Int)),.int .i64 (x2)] w fun e w'=>∃(S2:Mem) (pv3:Value) (pcs3 prs3:LV),e = .returned (pv3)∧HS ⟨S,zbJ [.osl (pv1) (x0).length 1 pcs1 prs1 5],w⟩ S2 w' [.osl (pv3) (r).length 1 pcs3 prs3 5]∧RL S2 pcs3 r:=by
 refine enter (n:=23) Tryz.func118 rfl rfl rfl<|sr fun K1 hK1=>asN rfl<|xk hK1<|wp_seq_k fun K2 hK2=>zbT fun m1 k1=>bn hF fun t1 hE1 hF1=>?_
 have J1:∀(v4:Value) (cs4 rs3:LV) (m4:FM) (w4:World),Kp (0::rg 7 15 []) m4 m1→look m4 0=v4→HS ⟨S,zbJ [.osl (pv1) (x0).length 1 pcs1 prs1 5],w⟩ S w4 [.osl (v4) (t1).length 1 cs4 rs3 5]→RL S cs4 t1→K2 (fr 23 m4) w4:=by
  clear H;intro v4 cs4 rs3 m4 w4 k5 q4 H g4
  refine hK2 _ _<|sr fun K7 hK7=>p_mv (v:=v4) q4<|p_as (v:=v4) rfl<|xk hK7<|wp_ret ?_
  obtain rfl:=osi hF1
  refine e_1 rfl (ziX rfl) ?_
  exact⟨_,_,_,_,rfl,H,g4⟩
 refine sr fun K3 hK3=>p_mv (k1 2)<|zaC (zoW rfl rfl)<|asI rfl<|xk hK3<|wp_block<|zbT fun m2 k2=>bn hE1 fun out1 hL1 hE2=>?_
 refine zjM (0::7::rg 10 12 []) (fun(s1:Int×Bs) (m3:FM) (w1:World)=>∃(v1:Value) (cs1 rs1:LV),look m3 0=v1∧look m3 7 = .int .i64 (s1.1)∧HS ⟨S,zbJ [.osl (pv1) (x0).length 1 pcs1 prs1 5],w⟩ S w1 [.osl (v1) (s1.2).length 1 cs1 rs1 5]∧RL S cs1 s1.2) hL1 ⟨_,_,_,(show _=(pv1:Value)from((k2 0).trans (k1 0))),(k2 7),H,pg1⟩ ?_
 clear H;intro k4 s1 m3 w1 k3 hI1 o2 hb1 hh1;obtain⟨v1,cs1,rs1,q1,q2,H,g1⟩:=hI1
 have q3:look m3 1 = .int .u64 (((x1).toNat:Int)):=(k3 1 rfl).trans ((k2 1).trans (k1 1))
 refine wp_seq_k fun K4 hK4=>sr fun K5 hK5=>p_mv q2<|zaC (yvH rfl rfl)<|xk hK5 ?_
 refine zfJ hb1 rfl (fun hb1 hc1=>?_) fun hb1 hc1=>?_
 ·refine wp_skip ?_
  refine xn hK4<|wp_seq_k fun K6 hK6=>wp_block<|wp_region_lit<|p_mv (v:=v1) q1<|p_mv q3<|p_mv q2<|zaC (yeA rfl rfl)<|bn hb1 fun y1 e1 hb1=>?_
  refine zaC (zqO rfl rfl (Int.not_lt.2 (of_decide_eq_true (zdQ e1))) (zoF _ _))<|zaC (zhY u102 u5 rfl (zrP _))<|zxX (zfS (N:=1) (xs:=([(i8 (((i64 (shrI .u64 ((x1).toNat:Int) (w64 ((8:Int)*s1.1))))).toNat:Int))]:Bs)) (RL.cons rpU8 RL.nil) znF H rfl rfl rfl) fun w2 v2 cs2 H g2=>bn hb1 fun y2 e2 hb1=>?_
  refine zvI (zgF (k:=1) (v2:=v2) znF rfl H rfl rfl g1 rfl (H.slW (k:=0) rfl) g2 e2) fun w3 v3 cs3 rs2 H g3=>?_
  replace H:=H.sel [1] rfl
  replace H:=hsn H
  refine p_as (v:=v3) rfl<|wpList_nil<|zdM<|xn hK6<|wp_region_lit<|p_mv q2<|zaC (zoW rfl rfl)<|asI rfl<|wpList_nil ?_
  refine zaJ ?_
  obtain rfl:=osi hb1
  exact⟨((w64 (s1.1-1)),y2),_,rfl,(kS k3 rfl kcx),⟨_,_,_,rfl,rfl,H,g3⟩,hh1⟩
 ·refine wp_exit ?_
  refine zaW<|zaW<|ziQ<|zaJ ?_
  obtain rfl:=osi hb1
  obtain rfl:=osi hh1
  obtain rfl:=osi hE2
  exact J1 _ _ _ _ _ (kS k3 rfl (kN k2 kcx)) (show _=(v1:Value)from q1) H g1
def znM(x0:Bs)(s1:UInt64×Int):Option ((UInt64×Int)⊕(UInt64)):=
  bif decide (s1.2<((x0).length:Int))then(Option.bind (idx x0 s1.2) fun y1=>some (.inl ((((i64 (shlI .u64 ((s1.1).toNat:Int) 8))|||(i64 ((y1).toNat:Int))),(w64 (s1.2+1))))))else(some (.inr (s1.1)))
def zpG(x0:Bs):Option (UInt64):=
  Option.bind (Option.bind (iter (znM x0) (((0:UInt64),0))) (fun e=>some (e))) (fun t1=>some (t1))
theorem yiV (hS : Sub S w) {x0 : Bs} {r : UInt64} (hF : zpG x0 = some r) :
    Calls Tryz.prog 159 #[str (x0)] w fun e w'=>e = .returned (.int .u64 (((r).toNat:Int)))∧Ext w w':=by
 refine enter (n:=19) Tryz.func159 rfl rfl rfl ?_
 have H:=HS.start hS
 refine sr fun K1 hK1=>asI rfl<|xk hK1<|sr fun K2 hK2=>asI rfl<|xk hK2<|wp_seq_k fun K3 hK3=>zbT fun m1 k1=>bn hF fun t1 hE1 hF1=>?_
 have J1:∀(m4:FM) (w2:World),Kp (rg 3 15 []) m4 m1→look m4 3 = .int .u64 (((t1).toNat:Int))→HS ⟨S,[],w⟩ S w2 []→K3 (fr 19 m4) w2:=by
  clear H;intro m4 w2 k5 q5 H
  refine hK3 _ _<|sr fun K9 hK9=>p_mv q5<|asI rfl<|xk hK9<|wp_ret ?_
  obtain rfl:=osi hF1
  refine e_1 rfl (ziX rfl) ?_
  exact⟨rfl,H.toExt⟩
 refine sr fun K4 hK4=>p_mv (k1 0)<|zaC (zqM (N:=(x0).length) u9 rfl rfl)<|mvI rfl<|xk hK4<|wp_block<|zbT fun m2 k2=>bn hE1 fun out1 hL1 hE2=>zjM (3::4::rg 7 11 []) (fun(s1:UInt64×Int) (m3:FM) (w1:World)=>look m3 3 = .int .u64 (((s1.1).toNat:Int))∧look m3 7 = .int .i64 (s1.2)∧HS ⟨S,[],w⟩ S w1 []) hL1 ⟨((k2 3).trans (k1 3)),(k2 7),H⟩ ?_
 clear H;intro k4 s1 m3 w1 k3 hI1 o2 hb1 hh1;obtain⟨q1,q2,H⟩:=hI1
 have q3:look m3 0=str (x0):=(k3 0 rfl).trans ((k2 0).trans (k1 0))
 have q4:look m3 6 = .int .i64 (((x0).length:Int)):=(k3 6 rfl).trans (k2 6)
 refine sr fun K5 hK5=>zaC (zfP q2 q4)<|xk hK5<|wp_seq_k fun K6 hK6=>?_
 refine zfJ hb1 rfl (fun hb1 hc1=>?_) fun hb1 hc1=>?_
 ·refine wp_skip ?_
  refine xn hK6<|wp_seq_k fun K7 hK7=>wp_block<|sr fun K8 hK8=>p_mv q2<|asI rfl<|xk hK8<|wp_region_lit<|p_mv q1 ?_
  refine zaC (ykU rfl rfl (by decide) (ymF _ _))<|p_mv q3<|mvI rfl<|bn hb1 fun y1 e1 hb1=>zaC (ydS (i:=(s1.2:Int).toNat) (u:=y1) u9 rfl rfl (zaB e1).1 (zaB e1).2)<|zaC (zhY u5 u102 rfl (zbR _))<|zaC (zbH (bo:=.or) (by simp) rfl rfl (xdM _ _))<|asI rfl<|wpList_nil ?_
  refine zdM<|xn hK7<|wp_region_lit<|zaC (zdS q2 rfl)<|mvI rfl<|wpList_nil<|zaJ ?_
  obtain rfl:=osi hb1
  exact⟨(((i64 (shlI .u64 ((s1.1).toNat:Int) 8))|||(i64 ((y1).toNat:Int))),(w64 (s1.2+1))),_,rfl,(kS k3 rfl kcx),⟨rfl,rfl,H⟩,hh1⟩
 ·refine wp_exit ?_
  refine zaW<|zaW<|ziQ<|zaJ ?_
  obtain rfl:=osi hb1
  obtain rfl:=osi hh1
  obtain rfl:=osi hE2
  exact J1 _ _ (kS k3 rfl (kN k2 kcx)) q1 H
def zoY(x0:Bs)(x1:Bs)(s1:Int×Int):Option ((Int×Int)⊕(Int)):=
  bif decide (s1.2<((x0).length:Int))then(Option.bind (bif decide (s1.2<((x1).length:Int))then(Option.bind (idx x1 s1.2) fun y1=>some (y1))else(some ((0:UInt8)))) (fun t2=>Option.bind (idx x0 s1.2) fun y2=>some (.inl (((bits .or .i64 s1.1 (((y2^^^t2)).toNat:Int)),(w64 (s1.2+1)))))))else(some (.inr (s1.1)))
def zuX(x0:Bs)(x1:Bs):Option (Bool):=
  Option.bind (Option.bind (iter (zoY x0 x1) (((bits .xor .i64 ((x0).length:Int) ((x1).length:Int)),0))) (fun e=>some (e))) (fun t1=>some ((t1==0)))
theorem ycS (hS : Sub S w) {x0 : Bs} {x1 : Bs} {r : Bool} (hF : zuX x0 x1 = some r) :
    Calls Tryz.prog 49 #[str (x0),str (x1)] w fun e w'=>e = .returned (.bool (r))∧Ext w w':=by
 refine enter (n:=36) Tryz.func49 rfl rfl rfl ?_
 have H:=HS.start hS
 refine sr fun K1 hK1=>asB rfl<|xk hK1<|sr fun K2 hK2=>mvT rfl<|zaC (zqM (N:=(x0).length) u9 rfl rfl)<|mvT rfl<|zaC (zqM (N:=(x1).length) u9 rfl rfl)<|zaC (zbH (bo:=.xor) (by simp) (r:=(bits .xor .i64 ((x0).length:Int) ((x1).length:Int))) rfl rfl rfl) ?_
 refine asI rfl<|xk hK2<|wp_seq_k fun K3 hK3=>zbT fun m1 k1=>bn hF fun t1 hE1 hF1=>?_
 have J2:∀(m6:FM) (w3:World),Kp (5::6::7::rg 13 21 []) m6 m1→look m6 5 = .int .i64 (t1)→HS ⟨S,[],w⟩ S w3 []→K3 (fr 36 m6) w3:=by
  clear H;intro m6 w3 k7 q13 H
  refine hK3 _ _<|sr fun K12 hK12=>p_mv q13<|zaC (ykM rfl rfl)<|asB rfl<|xk hK12<|wp_ret ?_
  obtain rfl:=osi hF1
  refine e_1 rfl (ziX rfl) ?_
  exact⟨rfl,H.toExt⟩
 refine sr fun K4 hK4=>p_mv (k1 0)<|zaC (zqM (N:=(x0).length) u9 rfl rfl)<|mvI rfl<|xk hK4<|wp_block<|zbT fun m2 k2=>bn hE1 fun out1 hL1 hE2=>zjM (5::6::7::rg 15 19 []) (fun(s1:Int×Int) (m3:FM) (w1:World)=>look m3 5 = .int .i64 (s1.1)∧look m3 15 = .int .i64 (s1.2)∧HS ⟨S,[],w⟩ S w1 []) hL1 ⟨((k2 5).trans (k1 5)),(k2 15),H⟩ ?_
 clear H;intro k4 s1 m3 w1 k3 hI1 o2 hb1 hh1;obtain⟨q1,q2,H⟩:=hI1
 have q3:look m3 0=str (x0):=(k3 0 rfl).trans ((k2 0).trans (k1 0))
 have q4:look m3 1=str (x1):=(k3 1 rfl).trans ((k2 1).trans (k1 1))
 have q5:look m3 14 = .int .i64 (((x0).length:Int)):=(k3 14 rfl).trans (k2 14)
 refine sr fun K5 hK5=>zaC (zfP q2 q5)<|xk hK5<|wp_seq_k fun K6 hK6=>?_
 refine zfJ hb1 rfl (fun hb1 hc1=>?_) fun hb1 hc1=>?_
 ·refine wp_skip ?_
  refine xn hK6<|wp_seq_k fun K7 hK7=>wp_block<|sr fun K8 hK8=>p_mv q2<|asI rfl<|xk hK8<|sr fun K9 hK9=>asI rfl ?_
  refine xk hK9<|wp_seq_k fun K10 hK10=>zbT fun m4 k5=>bn hb1 fun t2 hE3 hF2=>?_
  have J1:∀(m5:FM) (w2:World),Kp (7::rg 18 7 []) m5 m4→look m5 7 = .int .u8 (((t2).toNat:Int))→HS ⟨S,[],w⟩ S w2 []→K10 (fr 36 m5) w2:=by
   clear H;intro m5 w2 k6 q6 H
   have q7:=(k6 0 rfl).trans ((k5 0).trans q3)
   have q8:=(k6 1 rfl).trans ((k5 1).trans q4)
   have q9:=(k6 14 rfl).trans ((k5 14).trans q5)
   have q10:=(k6 5 rfl).trans ((k5 5).trans q1)
   have q11:=(k6 15 rfl).trans ((k5 15).trans q2)
   have q12:look m5 6 = .int .i64 (s1.2):=(k6 6 rfl).trans (k5 6)
   refine hK10 _ _<|wp_region_lit<|p_mv q10<|p_mv q7<|p_mv q12<|bn hF2 fun y2 e2 hF2=>zaC (ydS (i:=(s1.2:Int).toNat) (u:=y2) u9 rfl rfl (zaB e2).1 (zaB e2).2)<|p_mv q6<|zaC (zbH (bo:=.xor) (by simp) rfl rfl (yjA _ _)) ?_
   refine zaC (zhY u5 u3 rfl (yjI _))<|zaC (zbH (bo:=.or) (by simp) (r:=(bits .or .i64 s1.1 (((y2^^^t2)).toNat:Int))) rfl rfl rfl)<|asI rfl<|wpList_nil<|zdM<|xn hK7<|wp_region_lit<|zaC (zdS q11 rfl)<|mvI rfl ?_
   refine wpList_nil<|zaJ ?_
   obtain rfl:=osi hF2
   exact⟨((bits .or .i64 s1.1 (((y2^^^t2)).toNat:Int)),(w64 (s1.2+1))),_,rfl,(kS k6 rfl (kN k5 (kS k3 rfl kcx))),⟨rfl,rfl,H⟩,hh1⟩
  refine sr fun K11 hK11=>p_mv (k5 6)<|p_mv ((k5 1).trans q4)<|zaC (zqM (N:=(x1).length) u9 rfl rfl)<|zaC (zfP rfl rfl)<|xk hK11 ?_
  refine zfJ hE3 rfl (fun hE3 hc2=>?_) fun hE3 hc2=>?_
  ·refine wp_region_lit ?_
   refine p_mv ((k5 1).trans q4)<|p_mv (k5 6)<|bn hE3 fun y1 e1 hE3=>zaC (ydS (i:=(s1.2:Int).toNat) (u:=y1) u9 rfl rfl (zaB e1).1 (zaB e1).2)<|asI rfl<|wpList_nil<|zaJ ?_
   obtain rfl:=osi hE3
   exact J1 _ _ kcx rfl H
  ·refine wp_skip ?_
   refine zaJ ?_
   obtain rfl:=osi hE3
   exact J1 _ _ kcx (k5 7) H
 ·refine wp_exit ?_
  refine zaW<|zaW<|ziQ<|zaJ ?_
  obtain rfl:=osi hb1
  obtain rfl:=osi hh1
  obtain rfl:=osi hE2
  exact J2 _ _ (kS k3 rfl (kN k2 kcx)) q1 H
def zrD :Option ((Vec UInt32 64)):=
  some (kvec)
set_option maxRecDepth 20000 in
theorem ylH (hS : Sub S w)  {r : (Vec UInt32 64)} (hF : zrD = some r) :
    Calls Tryz.prog 124 #[] w fun e w'=>e = .returned (.agg (vcl cU32 r).toArray)∧Ext w w':=by
 refine enter (n:=2) Tryz.func124 rfl rfl rfl ?_
 have H:=HS.start hS
 refine sr fun K1 hK1=>yjL (zrN (l:=(vcl cU32 (vrep 64 (0:UInt32)))) H yzR rfl) fun w1 b1 H=>xk hK1<|sr fun K2 hK2=>?_
 refine zaC (ygV (vals:=[(0,.int .u32 (1116352408)),(1,.int .u32 (1899447441)),(2,.int .u32 (3049323471)),(3,.int .u32 (3921009573)),(4,.int .u32 (961987163)),(5,.int .u32 (1508970993)),(6,.int .u32 (2453635748)),(7,.int .u32 (2870763221)),(8,.int .u32 (3624381080)),(9,.int .u32 (310598401)),(10,.int .u32 (607225278)),(11,.int .u32 (1426881987)),(12,.int .u32 (1925078388)),(13,.int .u32 (2162078206)),(14,.int .u32 (2614888103)),(15,.int .u32 (3248222580)),(16,.int .u32 (3835390401)),(17,.int .u32 (4022224774)),(18,.int .u32 (264347078)),(19,.int .u32 (604807628)),(20,.int .u32 (770255983)),(21,.int .u32 (1249150122)),(22,.int .u32 (1555081692)),(23,.int .u32 (1996064986)),(24,.int .u32 (2554220882)),(25,.int .u32 (2821834349)),(26,.int .u32 (2952996808)),(27,.int .u32 (3210313671)),(28,.int .u32 (3336571891)),(29,.int .u32 (3584528711)),(30,.int .u32 (113926993)),(31,.int .u32 (338241895)),(32,.int .u32 (666307205)),(33,.int .u32 (773529912)),(34,.int .u32 (1294757372)),(35,.int .u32 (1396182291)),(36,.int .u32 (1695183700)),(37,.int .u32 (1986661051)),(38,.int .u32 (2177026350)),(39,.int .u32 (2456956037)),(40,.int .u32 (2730485921)),(41,.int .u32 (2820302411)),(42,.int .u32 (3259730800)),(43,.int .u32 (3345764771)),(44,.int .u32 (3516065817)),(45,.int .u32 (3600352804)),(46,.int .u32 (4094571909)),(47,.int .u32 (275423344)),(48,.int .u32 (430227734)),(49,.int .u32 (506948616)),(50,.int .u32 (659060556)),(51,.int .u32 (883997877)),(52,.int .u32 (958139571)),(53,.int .u32 (1322822218)),(54,.int .u32 (1537002063)),(55,.int .u32 (1747873779)),(56,.int .u32 (1955562222)),(57,.int .u32 (2024104815)),(58,.int .u32 (2227730452)),(59,.int .u32 (2361852424)),(60,.int .u32 (2428436474)),(61,.int .u32 (2756734187)),(62,.int .u32 (3204031479)),(63,.int .u32 (3329325298))]) (l:=(vcl cU32 kvec)) tb157 rfl rfl) ?_
 refine zyG (yjK (X:=(vrep 64 (0:UInt32))) (Y:=kvec) (cf:=fun a_:UInt32=>Value.int .u32 a_.I) (k:=0) xdX H rfl rfl rfl (fun _=>rfl)) fun w2 H=>xk hK2<|wp_ret ?_
 obtain rfl:=osi hF
 refine e_1 rfl (yuW (l:=(vcl cU32 kvec)) tg157 H rfl (k:=0) rfl (vcl_all _ _) (xeF _ _)) ?_
 exact⟨rfl,H.toExt⟩
def zaO(x0:UInt32)(x1:Int):Option (UInt32):=
  Option.bind (zfN x0 (w64 (0-x1))) fun y1=>some (y1)
theorem zbE (hS : Sub S w) {x0 : UInt32} {x1 : Int} {r : UInt32} (hF : zaO x0 x1 = some r) :
    Calls Tryz.prog 160 #[.int .u32 x0.I,.int .i64 (x1)] w fun e w'=>e = .returned (.int .u32 r.I)∧Ext w w':=by
 refine enter (n:=9) Tryz.func160 rfl rfl rfl ?_
 have H:=HS.start hS
 refine sr fun K1 hK1=>asI rfl<|xk hK1<|sr fun K2 hK2=>mvI rfl<|mvI rfl<|zaC (r_neg (r:=(w64 (0-x1))) rfl rfl)<|bn hF fun y1 e1 hF=>zeX is161 rfl ?_
 refine(zqU H.sub e1).mono<|H.xe fun w1 H=>asI rfl<|xk hK2<|wp_ret ?_
 obtain rfl:=osi hF
 refine e_1 rfl (ziX rfl) ?_
 exact⟨rfl,H.toExt⟩
def zhL(x1:Bs)(s1:Int×(Vec UInt32 64)):Option ((Int×(Vec UInt32 64))⊕((Vec UInt32 64))):=
  bif decide (s1.1<16)then(Option.bind (sub3 x1 (w64 ((4:Int)*s1.1)) (w64 ((w64 ((4:Int)*s1.1))+4))) fun y1=>Option.bind (zpG y1) fun y2=>Option.bind (idx s1.2.l s1.1) fun _y3=>Option.bind (setV s1.2 (s1.1:Int) (i32 ((y2).toNat:Int))) fun y4=>some (.inl (((w64 (s1.1+1)),y4))))else(some (.inr (s1.2)))
def zhA(s2:Int×(Vec UInt32 64)):Option ((Int×(Vec UInt32 64))⊕((Vec UInt32 64))):=
  bif decide (s2.1<64)then(Option.bind (idx s2.2.l (w64 (s2.1-15))) fun y5=>Option.bind (idx s2.2.l (w64 (s2.1-2))) fun y6=>Option.bind (idx s2.2.l (w64 (s2.1-16))) fun y7=>Option.bind (zaO y5 7) fun y8=>Option.bind (zaO y5 18) fun y9=>Option.bind (idx s2.2.l (w64 (s2.1-7))) fun y10=>Option.bind (zaO y6 17) fun y11=>Option.bind (zaO y6 19) fun y12=>Option.bind (idx s2.2.l s2.1) fun _y13=>Option.bind (setV s2.2 (s2.1:Int) (i32 ((((i32 ((((i32 (((y7).toNat:Int)+((((y8^^^y9)^^^(i32 (shrI .u32 ((y5).toNat:Int) 3)))).toNat:Int)))).toNat:Int)+((y10).toNat:Int)))).toNat:Int)+((((y11^^^y12)^^^(i32 (shrI .u32 ((y6).toNat:Int) 10)))).toNat:Int)))) fun y14=>some (.inl (((w64 (s2.1+1)),y14))))else(some (.inr (s2.2)))
def zgZ(x2:Vec UInt32 64)(t2:(Vec UInt32 64))(s3:Int×Qs):Option ((Int×Qs)⊕Qs):=
  bif decide (s3.1<64)then(Option.bind (zaO s3.2.2.2.2.2.1 6) fun y15=>Option.bind (zaO s3.2.2.2.2.2.1 11) fun y16=>Option.bind (zaO s3.2.2.2.2.2.1 25) fun y17=>Option.bind (idx x2.l s3.1) fun y18=>Option.bind (idx t2.l s3.1) fun y19=>Option.bind (zaO s3.2.1 2) fun y20=>Option.bind (zaO s3.2.1 13) fun y21=>Option.bind (zaO s3.2.1 22) fun y22=>some (.inl (((w64 (s3.1+1)),(i32 ((((i32 ((((i32 ((((i32 ((((i32 (((s3.2.2.2.2.2.2.2.2).toNat:Int)+((((y15^^^y16)^^^y17)).toNat:Int)))).toNat:Int)+((((s3.2.2.2.2.2.1&&&s3.2.2.2.2.2.2.1)^^^(((4294967295:UInt32)^^^s3.2.2.2.2.2.1)&&&s3.2.2.2.2.2.2.2.1))).toNat:Int)))).toNat:Int)+((y18).toNat:Int)))).toNat:Int)+((y19).toNat:Int)))).toNat:Int)+(((i32 (((((y20^^^y21)^^^y22)).toNat:Int)+(((((s3.2.1&&&s3.2.2.1)^^^(s3.2.1&&&s3.2.2.2.1))^^^(s3.2.2.1&&&s3.2.2.2.1))).toNat:Int)))).toNat:Int))),s3.2.1,s3.2.2.1,s3.2.2.2.1,(i32 (((s3.2.2.2.2.1).toNat:Int)+(((i32 ((((i32 ((((i32 ((((i32 (((s3.2.2.2.2.2.2.2.2).toNat:Int)+((((y15^^^y16)^^^y17)).toNat:Int)))).toNat:Int)+((((s3.2.2.2.2.2.1&&&s3.2.2.2.2.2.2.1)^^^(((4294967295:UInt32)^^^s3.2.2.2.2.2.1)&&&s3.2.2.2.2.2.2.2.1))).toNat:Int)))).toNat:Int)+((y18).toNat:Int)))).toNat:Int)+((y19).toNat:Int)))).toNat:Int))),s3.2.2.2.2.2.1,s3.2.2.2.2.2.2.1,s3.2.2.2.2.2.2.2.1))))else(some (.inr ((s3.2.1,s3.2.2.1,s3.2.2.2.1,s3.2.2.2.2.1,s3.2.2.2.2.2.1,s3.2.2.2.2.2.2.1,s3.2.2.2.2.2.2.2.1,s3.2.2.2.2.2.2.2.2))))
def zpE(x0:Qs)(s4:Int×Qs):Option ((Int×Qs)⊕Qs):=
  bif decide (s4.1<8)then(Option.bind (idx ([s4.2.1,s4.2.2.1,s4.2.2.2.1,s4.2.2.2.2.1,s4.2.2.2.2.2.1,s4.2.2.2.2.2.2.1,s4.2.2.2.2.2.2.2.1,s4.2.2.2.2.2.2.2.2]:List UInt32) s4.1) fun y23=>Option.bind (idx ([x0.1,x0.2.1,x0.2.2.1,x0.2.2.2.1,x0.2.2.2.2.1,x0.2.2.2.2.2.1,x0.2.2.2.2.2.2.1,x0.2.2.2.2.2.2.2]:List UInt32) s4.1) fun y24=>Option.bind (idx ([s4.2.1,s4.2.2.1,s4.2.2.2.1,s4.2.2.2.2.1,s4.2.2.2.2.2.1,s4.2.2.2.2.2.2.1,s4.2.2.2.2.2.2.2.1,s4.2.2.2.2.2.2.2.2]:List UInt32) s4.1) fun _y25=>Option.bind (setL ([s4.2.1,s4.2.2.1,s4.2.2.2.1,s4.2.2.2.2.1,s4.2.2.2.2.2.1,s4.2.2.2.2.2.2.1,s4.2.2.2.2.2.2.2.1,s4.2.2.2.2.2.2.2.2]:List UInt32) (s4.1:Int) (i32 (((y23).toNat:Int)+((y24).toNat:Int)))) fun y26=>some (.inl (((w64 (s4.1+1)),(y26.getD 0 (0:UInt32)),(y26.getD 1 (0:UInt32)),(y26.getD 2 (0:UInt32)),(y26.getD 3 (0:UInt32)),(y26.getD 4 (0:UInt32)),(y26.getD 5 (0:UInt32)),(y26.getD 6 (0:UInt32)),(y26.getD 7 (0:UInt32))))))else(some (.inr ((s4.2.1,s4.2.2.1,s4.2.2.2.1,s4.2.2.2.2.1,s4.2.2.2.2.2.1,s4.2.2.2.2.2.2.1,s4.2.2.2.2.2.2.2.1,s4.2.2.2.2.2.2.2.2))))
def ziE(x0:Qs)(x1:Bs)(x2:Vec UInt32 64):Option (Qs×(Vec UInt32 64)):=
  Option.bind (Option.bind (iter (zhL x1) ((0,(vrep 64 (0:UInt32))))) (fun e=>some (e))) (fun t1=>Option.bind (Option.bind (iter (zhA) ((16,t1))) (fun e=>some (e))) (fun t2=>Option.bind (Option.bind (iter (zgZ x2 t2) ((0,x0.1,x0.2.1,x0.2.2.1,x0.2.2.2.1,x0.2.2.2.2.1,x0.2.2.2.2.2.1,x0.2.2.2.2.2.2.1,x0.2.2.2.2.2.2.2))) (fun e=>some (e))) (fun t3=>Option.bind (Option.bind (iter (zpE x0) ((0,t3.1,t3.2.1,t3.2.2.1,t3.2.2.2.1,t3.2.2.2.2.1,t3.2.2.2.2.2.1,t3.2.2.2.2.2.2.1,t3.2.2.2.2.2.2.2))) (fun e=>some (e))) (fun t4=>some (((t4.1,t4.2.1,t4.2.2.1,t4.2.2.2.1,t4.2.2.2.2.1,t4.2.2.2.2.2.1,t4.2.2.2.2.2.2.1,t4.2.2.2.2.2.2.2),x2))))))
theorem zxO {b2_ : Nat} {x2 : Vec UInt32 64} (H : HS ⟨S, zbJ [.blk b2_ ((vcl cU32 x2)) 157], w⟩ S w [.blk b2_ ((vcl cU32 x2)) 157]) {x0 : Qs} {v1_ : Value} {x1 : Bs} (h1_ : RdS S v1_ x1) {r : Qs × (Vec UInt32 64)} (hF : ziE x0 x1 x2 = some r) :
    Calls Tryz.prog 125 #[.agg ((zfO x0)).toArray,v1_,.pointer (some ⟨b2_,0,none⟩)] w fun e w'=>∃(S2:Mem) ,e = .returned (.agg ((zfO r.1)).toArray)∧HS ⟨S,zbJ [.blk b2_ ((vcl cU32 x2)) 157],w⟩ S2 w' [.blk b2_ ((vcl cU32 r.2)) 157]:=by
 refine enter (n:=177) Tryz.func125 rfl rfl rfl<|sr fun K1 hK1=>yjL (a_box (l:=(zfO x0)) H rfl) fun w1 b1 H=>yjL (zrN (l:=(zfO ((0:UInt32),(0:UInt32),(0:UInt32),(0:UInt32),(0:UInt32),(0:UInt32),(0:UInt32),(0:UInt32)))) H xaK rfl) fun w2 b2 H=>xk hK1<|sr fun K2 hK2=>?_
 refine yjL (zrN (l:=(vcl cU32 (vrep 64 (0:UInt32)))) H yzR rfl) fun w3 b3 H=>xk hK2<|wp_seq_k fun K3 hK3=>zbT fun m1 k1=>bn hF fun t1 hE1 hF1=>?_
 have J4:∀(m4:FM) (w7:World),Kp (8::rg 20 16 []) m4 m1→HS ⟨S,zbJ [.blk b2_ ((vcl cU32 x2)) 157],w⟩ S w7 [.blk b3 ((vcl cU32 t1)) 157,.blk b2 ((zfO ((0:UInt32),(0:UInt32),(0:UInt32),(0:UInt32),(0:UInt32),(0:UInt32),(0:UInt32),(0:UInt32)))) 160,.blk b1 ((zfO x0)) 160,.blk b2_ ((vcl cU32 x2)) 157]→K3 (fr 177 m4) w7:=by
  clear H;intro m4 w7 k5 H
  have q7:look m4 2 = .pointer (some ⟨b2_,0,none⟩):=(k5 2 rfl).trans (k1 2)
  have q8:look m4 3 = .pointer (some ⟨b1,0,none⟩):=(k5 3 rfl).trans (k1 3)
  have q9:look m4 6 = .pointer (some ⟨b2,0,none⟩):=(k5 6 rfl).trans (k1 6)
  have q10:look m4 7 = .pointer (some ⟨b3,0,none⟩):=(k5 7 rfl).trans (k1 7)
  refine hK3 _ _<|sr fun K9 hK9=>p_as (v:=.func (.func 160) #[] #[]) rfl<|xk hK9<|wp_seq_k fun K10 hK10=>zbT fun m5 k6=>bn hF1 fun t2 hE3 hF2=>?_
  have J3:∀(m8:FM) (w12:World),Kp (10::11::12::rg 36 45 []) m8 m5→HS ⟨S,zbJ [.blk b2_ ((vcl cU32 x2)) 157],w⟩ S w12 [.blk b3 ((vcl cU32 t2)) 157,.blk b2 ((zfO ((0:UInt32),(0:UInt32),(0:UInt32),(0:UInt32),(0:UInt32),(0:UInt32),(0:UInt32),(0:UInt32)))) 160,.blk b1 ((zfO x0)) 160,.blk b2_ ((vcl cU32 x2)) 157]→K10 (fr 177 m8) w12:=by
   clear H;intro m8 w12 k10 H
   have q17:=(k10 2 rfl).trans ((k6 2).trans q7)
   have q18:=(k10 3 rfl).trans ((k6 3).trans q8)
   have q19:=(k10 6 rfl).trans ((k6 6).trans q9)
   have q20:=(k10 7 rfl).trans ((k6 7).trans q10)
   have q21:look m8 9 = .func (.func 160) #[] #[]:=(k10 9 rfl).trans (k6 9)
   refine hK10 _ _<|sr fun K16 hK16=>zaC (ypR (l:=(zfO x0)) yvT H q18 (k:=2) rfl rfl rfl)<|yjL (zrN (l:=(zfO ((0:UInt32),(0:UInt32),(0:UInt32),(0:UInt32),(0:UInt32),(0:UInt32),(0:UInt32),(0:UInt32)))) H xaK rfl) fun w13 b4 H=>zyG (zlQ (k:=0) (l:=(zfO x0)) yqL H rfl rfl rfl (ztE _) rfl (onz rfl) rfl) fun w14 H=>xk hK16 ?_
   refine wp_seq_k fun K17 hK17=>zbT fun m9 k11=>bn hF2 fun t3 hE5 hF3=>?_
   have J2:∀(m12:FM) (w23:World),Kp (14::15::16::17::18::rg 82 82 []) m12 m9→HS ⟨S,zbJ [.blk b2_ ((vcl cU32 x2)) 157],w⟩ S w23 [.blk b4 ((zfO t3)) 160,.blk b3 ((vcl cU32 t2)) 157,.blk b2 ((zfO ((0:UInt32),(0:UInt32),(0:UInt32),(0:UInt32),(0:UInt32),(0:UInt32),(0:UInt32),(0:UInt32)))) 160,.blk b1 ((zfO x0)) 160,.blk b2_ ((vcl cU32 x2)) 157]→K17 (fr 177 m12) w23:=by
    clear H;intro m12 w23 k15 H
    have q29:=(k15 3 rfl).trans ((k11 3).trans q18)
    have q30:=(k15 6 rfl).trans ((k11 6).trans q19)
    have q31:look m12 13 = .pointer (some ⟨b4,0,none⟩):=(k15 13 rfl).trans (k11 13)
    refine hK17 _ _<|wp_seq_k fun K28 hK28=>zbT fun m13 k16=>bn hF3 fun t4 hE7 hF4=>?_
    have J1:∀(m16:FM) (w27:World),Kp (19::rg 164 12 []) m16 m13→HS ⟨S,zbJ [.blk b2_ ((vcl cU32 x2)) 157],w⟩ S w27 [.blk b4 ((zfO t4)) 160,.blk b3 ((vcl cU32 t2)) 157,.blk b2 ((zfO ((0:UInt32),(0:UInt32),(0:UInt32),(0:UInt32),(0:UInt32),(0:UInt32),(0:UInt32),(0:UInt32)))) 160,.blk b1 ((zfO x0)) 160,.blk b2_ ((vcl cU32 x2)) 157]→K28 (fr 177 m16) w27:=by
     clear H;intro m16 w27 k20 H
     have q36:=(k20 6 rfl).trans ((k16 6).trans q30)
     have q37:=(k20 13 rfl).trans ((k16 13).trans q31)
     refine hK28 _ _<|sr fun K34 hK34=>zaC (ypR (l:=(zfO t4)) yvT H q37 (k:=0) rfl rfl rfl)<|zyG (zlQ (k:=2) (l:=(zfO t4)) yqL H q36 rfl rfl (ztE _) rfl (onz rfl) rfl) fun w28 H=>xk hK34<|wp_ret ?_
     obtain rfl:=osi hF4
     refine e_1 rfl (yuW (l:=(zfO t4)) yvT H q36 (k:=2) rfl rfl rfl) ?_
     replace H:=H.sel [4] rfl
     replace H:=hsn H
     exact⟨_,rfl,H⟩
    refine sr fun K29 hK29=>mvI rfl<|xk hK29<|wp_block<|zbT fun m14 k17=>bn hE7 fun out4 hL4 hE8=>?_
    refine zjM (19::rg 164 12 []) (fun(s4:Int×Qs) (m15:FM) (w24:World)=>look m15 164 = .int .i64 (s4.1)∧HS ⟨S,zbJ [.blk b2_ ((vcl cU32 x2)) 157],w⟩ S w24 [.blk b4 ((zfO s4.2)) 160,.blk b3 ((vcl cU32 t2)) 157,.blk b2 ((zfO ((0:UInt32),(0:UInt32),(0:UInt32),(0:UInt32),(0:UInt32),(0:UInt32),(0:UInt32),(0:UInt32)))) 160,.blk b1 ((zfO x0)) 160,.blk b2_ ((vcl cU32 x2)) 157]) hL4 ⟨(k17 164),H⟩ ?_
    clear H;intro k19 s4 m15 w24 k18 hI4 o8 hb4 hh4;obtain⟨q32,H⟩:=hI4
    have q33:=(k18 3 rfl).trans ((k17 3).trans ((k16 3).trans q29))
    have q34:=(k18 6 rfl).trans ((k17 6).trans ((k16 6).trans q30))
    have q35:=(k18 13 rfl).trans ((k17 13).trans ((k16 13).trans q31))
    refine sr fun K30 hK30=>zaC (zfP q32 rfl)<|xk hK30<|wp_seq_k fun K31 hK31=>?_
    refine zfJ hb4 rfl (fun hb4 hc4=>?_) fun hb4 hc4=>?_
    ·refine wp_skip ?_
     refine xn hK31<|wp_seq_k fun K32 hK32=>wp_block<|sr fun K33 hK33=>p_mv q32<|asI rfl<|xk hK33<|bn hb4 fun y23 e23 hb4=>bn hb4 fun y24 e24 hb4=>?_
     refine bn hb4 fun y25 e25 hb4=>wrS H 8 [] fun vs7 H=>?_
     refine tp (zaE (v:=.int .i64 (s4.1)) rfl)<|tp (zdO (i:=(s4.1:Int).toNat) u160 zmT q35 rfl rfl (by have h1_:=(zaB e23).1;omega) (by have h1_:=(zaB e23).1;have h2_:=zbB e23;simp only[List.length_cons,List.length_nil]at h2_;omega)) ?_
     refine t_v (fun w hx=>ymT (cf:=fun a_:UInt32=>Value.int .u32 (((a_).toNat:Int))) (o:=0) zeP (H.ext hx) rfl (k:=0) rfl e23 rfl)<|tp (zaE (v:=.int .i64 (s4.1)) rfl) ?_
     refine tp (zdO (i:=(s4.1:Int).toNat) u160 zmT q33 rfl rfl (by have h1_:=(zaB e24).1;omega) (by have h1_:=(zaB e24).1;have h2_:=zbB e24;simp only[List.length_cons,List.length_nil]at h2_;omega)) ?_
     refine t_v (fun w hx=>ymT (cf:=fun a_:UInt32=>Value.int .u32 (((a_).toNat:Int))) (o:=0) zeP (H.ext hx) rfl (k:=3) rfl e24 rfl)<|tp (ziZ rfl rfl (zbG _))<|tp (zdO (i:=(s4.1:Int).toNat) u160 zmT q35 rfl rfl (by have h1_:=(zaB e25).1;omega) (by have h1_:=(zaB e25).1;have h2_:=zbB e25;simp only[List.length_cons,List.length_nil]at h2_;omega)) ?_
     refine zmR<|H.tn fun w25 H=>bn hb4 fun y26 e26 hb4=>zyG (yzD (0:UInt32) (cf:=fun a_:UInt32=>Value.int .u32 (((a_).toNat:Int))) (u:=(i32 (((y23).toNat:Int)+((y24).toNat:Int)))) (o:=0) (n:=8) (k:=0) zcD H rfl rfl rfl (rfl) e26 rfl rfl (Nat.le_of_ble_eq_true rfl)) fun w26 H=>wpList_nil<|zdC<|zdM<|xn hK32<|wp_region_lit<|zaC (zdS q32 rfl) ?_
     refine mvI rfl<|wpList_nil<|zaJ ?_
     obtain rfl:=osi hb4
     exact⟨((w64 (s4.1+1)),(y26.getD 0 (0:UInt32)),(y26.getD 1 (0:UInt32)),(y26.getD 2 (0:UInt32)),(y26.getD 3 (0:UInt32)),(y26.getD 4 (0:UInt32)),(y26.getD 5 (0:UInt32)),(y26.getD 6 (0:UInt32)),(y26.getD 7 (0:UInt32))),_,rfl,(kS k18 rfl kcx),⟨rfl,H⟩,hh4⟩
    ·refine wp_exit ?_
     refine zaW<|zaW<|ziQ<|zaJ ?_
     obtain rfl:=osi hb4
     obtain rfl:=osi hh4
     obtain rfl:=osi hE8
     exact J1 _ _ (kS k18 rfl (kN k17 kcx)) H
   refine sr fun K18 hK18=>mvI rfl<|xk hK18<|wp_block<|zbT fun m10 k12=>bn hE5 fun out3 hL3 hE6=>?_
   refine zjM (14::15::16::17::18::rg 82 82 []) (fun(s3:Int×Qs) (m11:FM) (w15:World)=>look m11 82 = .int .i64 (s3.1)∧HS ⟨S,zbJ [.blk b2_ ((vcl cU32 x2)) 157],w⟩ S w15 [.blk b4 ((zfO s3.2)) 160,.blk b3 ((vcl cU32 t2)) 157,.blk b2 ((zfO ((0:UInt32),(0:UInt32),(0:UInt32),(0:UInt32),(0:UInt32),(0:UInt32),(0:UInt32),(0:UInt32)))) 160,.blk b1 ((zfO x0)) 160,.blk b2_ ((vcl cU32 x2)) 157]) hL3 ⟨(k12 82),H⟩ ?_
   clear H;intro k14 s3 m11 w15 k13 hI3 o6 hb3 hh3;obtain⟨q22,H⟩:=hI3
   have q23:=(k13 2 rfl).trans ((k12 2).trans ((k11 2).trans q17))
   have q24:=(k13 3 rfl).trans ((k12 3).trans ((k11 3).trans q18))
   have q25:=(k13 6 rfl).trans ((k12 6).trans ((k11 6).trans q19))
   have q26:=(k13 7 rfl).trans ((k12 7).trans ((k11 7).trans q20))
   have q27:=(k13 9 rfl).trans ((k12 9).trans ((k11 9).trans q21))
   have q28:look m11 13 = .pointer (some ⟨b4,0,none⟩):=(k13 13 rfl).trans ((k12 13).trans (k11 13))
   refine sr fun K19 hK19=>zaC (zfP q22 rfl)<|xk hK19<|wp_seq_k fun K20 hK20=>?_
   refine zfJ hb3 rfl (fun hb3 hc3=>?_) fun hb3 hc3=>?_
   ·refine wp_skip ?_
    refine xn hK20<|wp_seq_k fun K21 hK21=>wp_block<|sr fun K22 hK22=>p_mv q22<|asI rfl<|xk hK22<|wp_seq_k fun K23 hK23=>wrS H 5 [] fun vs3 H=>?_
    refine tp (zdO (k:=.i64) (i:=0) u160 zmT q28 rfl rfl (by decide) (by decide))<|t_v (fun w hx=>zfF (v:=.int .u32 (((s3.2.1).toNat:Int))) zeP (H.ext hx) rfl (k:=0) rfl rfl)<|tp (zdO (k:=.i64) (i:=4) u160 zmT q28 rfl rfl (by decide) (by decide))<|t_v (fun w hx=>zfF (v:=.int .u32 (((s3.2.2.2.2.2.1).toNat:Int))) zeP (H.ext hx) rfl (k:=0) rfl rfl) ?_
    refine tp (ziC (v:=.int .u32 (((s3.2.1).toNat:Int))) rfl)<|zmR<|H.tn fun w16 H=>asI rfl<|wpList_nil<|zdC<|xn hK23<|wp_seq_k fun K24 hK24=>bn hb3 fun y15 e15 hb3=>bn hb3 fun y16 e16 hb3=>bn hb3 fun y17 e17 hb3=>?_
    refine bn hb3 fun y18 e18 hb3=>bn hb3 fun y19 e19 hb3=>wrS H 35 [(4,.inl (.int .u32 (((y15).toNat:Int)))),(7,.inl (.int .u32 (((y16).toNat:Int)))),(11,.inl (.int .u32 (((y17).toNat:Int))))] fun vs4 H=>?_
    refine tp (zdO (k:=.i64) (i:=7) u160 zmT q28 rfl rfl (by decide) (by decide))<|t_v (fun w hx=>zfF (v:=.int .u32 (((s3.2.2.2.2.2.2.2.2).toNat:Int))) zeP (H.ext hx) rfl (k:=0) rfl rfl)<|tp (zaE (v:=.func (.func 160) #[] #[]) q27)<|tp (zaE (v:=.int .u32 (((s3.2.2.2.2.2.1).toNat:Int))) rfl) ?_
    refine zpY (l:=[.int .u32 (((s3.2.2.2.2.2.1).toNat:Int)),.int .i64 (6)]) rfl rfl rfl ydC rfl (fun w hx hF=>(zbE (H.ext hx).sub e15).mono (fun _ _ h=>h))<|tp (zaE (v:=.func (.func 160) #[] #[]) q27)<|tp (zaE (v:=.int .u32 (((s3.2.2.2.2.2.1).toNat:Int))) rfl) ?_
    refine zpY (l:=[.int .u32 (((s3.2.2.2.2.2.1).toNat:Int)),.int .i64 (11)]) rfl rfl rfl ydC rfl (fun w hx hF=>(zbE (H.ext hx).sub e16).mono (fun _ _ h=>h))<|tp (zbH (bo:=.xor) (by simp) rfl rfl (zdJ _ _))<|tp (zaE (v:=.func (.func 160) #[] #[]) q27)<|tp (zaE (v:=.int .u32 (((s3.2.2.2.2.2.1).toNat:Int))) rfl) ?_
    refine zpY (l:=[.int .u32 (((s3.2.2.2.2.2.1).toNat:Int)),.int .i64 (25)]) rfl rfl rfl ydC rfl (fun w hx hF=>(zbE (H.ext hx).sub e17).mono (fun _ _ h=>h))<|tp (zbH (bo:=.xor) (by simp) rfl rfl (zdJ _ _))<|tp (ziZ rfl rfl (zbG _))<|tp (zaE (v:=.int .u32 (((s3.2.2.2.2.2.1).toNat:Int))) rfl) ?_
    refine tp (zdO (k:=.i64) (i:=5) u160 zmT q28 rfl rfl (by decide) (by decide))<|t_v (fun w hx=>zfF (v:=.int .u32 (((s3.2.2.2.2.2.2.1).toNat:Int))) zeP (H.ext hx) rfl (k:=0) rfl rfl)<|tp (zbH (bo:=.and) (by simp) rfl rfl (zoH _ _))<|tp (zaE (v:=.int .u32 (((s3.2.2.2.2.2.1).toNat:Int))) rfl) ?_
    refine tp (r_com rfl rfl (r:=((((4294967295:UInt32)^^^s3.2.2.2.2.2.1)).toNat:Int)) (zdJ 4294967295 s3.2.2.2.2.2.1))<|tp (zdO (k:=.i64) (i:=6) u160 zmT q28 rfl rfl (by decide) (by decide))<|t_v (fun w hx=>zfF (v:=.int .u32 (((s3.2.2.2.2.2.2.2.1).toNat:Int))) zeP (H.ext hx) rfl (k:=0) rfl rfl)<|tp (zbH (bo:=.and) (by simp) rfl rfl (zoH _ _)) ?_
    refine tp (zbH (bo:=.xor) (by simp) rfl rfl (zdJ _ _))<|tp (ziZ rfl rfl (zbG _))<|tp (zaE (v:=.pointer (some ⟨b2_,0,none⟩)) q23)<|tp (zaE (v:=.int .i64 (s3.1)) rfl)<|tp (zkI rfl)<|tp (zdO (i:=(s3.1:Int).toNat) u157 zmT rfl rfl rfl (by have h1_:=(zaB e18).1;omega) (by have h1_:=(zaB e18).1;have h2_:=zsS e18;omega)) ?_
    refine t_v (fun w hx=>zyI (X:=x2) (cf:=fun a_:UInt32=>Value.int .u32 (((a_).toNat:Int))) zeP (H.ext hx) rfl (k:=4) rfl e18)<|tp (ziZ rfl rfl (zbG _))<|tp (zaE (v:=.int .i64 (s3.1)) rfl)<|tp (zdO (i:=(s3.1:Int).toNat) u157 zmT q26 rfl rfl (by have h1_:=(zaB e19).1;omega) (by have h1_:=(zaB e19).1;have h2_:=zsS e19;omega)) ?_
    refine t_v (fun w hx=>zyI (X:=t2) (cf:=fun a_:UInt32=>Value.int .u32 (((a_).toNat:Int))) zeP (H.ext hx) rfl (k:=1) rfl e19)<|tp (ziZ rfl rfl (zbG _))<|zmR<|H.tn fun w17 H=>asI rfl<|wpList_nil<|zdC<|xn hK24<|wp_seq_k fun K25 hK25=>bn hb3 fun y20 e20 hb3=>bn hb3 fun y21 e21 hb3=>?_
    refine bn hb3 fun y22 e22 hb3=>wrS H 27 [(2,.inl (.int .u32 (((y20).toNat:Int)))),(5,.inl (.int .u32 (((y21).toNat:Int)))),(9,.inl (.int .u32 (((y22).toNat:Int))))] fun vs5 H=>?_
    refine tp (zaE (v:=.func (.func 160) #[] #[]) q27)<|tp (zaE (v:=.int .u32 (((s3.2.1).toNat:Int))) rfl)<|zpY (l:=[.int .u32 (((s3.2.1).toNat:Int)),.int .i64 (2)]) rfl rfl rfl ydC rfl (fun w hx hF=>(zbE (H.ext hx).sub e20).mono (fun _ _ h=>h))<|tp (zaE (v:=.func (.func 160) #[] #[]) q27)<|tp (zaE (v:=.int .u32 (((s3.2.1).toNat:Int))) rfl) ?_
    refine zpY (l:=[.int .u32 (((s3.2.1).toNat:Int)),.int .i64 (13)]) rfl rfl rfl ydC rfl (fun w hx hF=>(zbE (H.ext hx).sub e21).mono (fun _ _ h=>h))<|tp (zbH (bo:=.xor) (by simp) rfl rfl (zdJ _ _))<|tp (zaE (v:=.func (.func 160) #[] #[]) q27)<|tp (zaE (v:=.int .u32 (((s3.2.1).toNat:Int))) rfl) ?_
    refine zpY (l:=[.int .u32 (((s3.2.1).toNat:Int)),.int .i64 (22)]) rfl rfl rfl ydC rfl (fun w hx hF=>(zbE (H.ext hx).sub e22).mono (fun _ _ h=>h))<|tp (zbH (bo:=.xor) (by simp) rfl rfl (zdJ _ _))<|tp (zaE (v:=.int .u32 (((s3.2.1).toNat:Int))) rfl)<|tp (zdO (k:=.i64) (i:=1) u160 zmT q28 rfl rfl (by decide) (by decide)) ?_
    refine t_v (fun w hx=>zfF (v:=.int .u32 (((s3.2.2.1).toNat:Int))) zeP (H.ext hx) rfl (k:=0) rfl rfl)<|tp (zbH (bo:=.and) (by simp) rfl rfl (zoH _ _))<|tp (zaE (v:=.int .u32 (((s3.2.1).toNat:Int))) rfl)<|tp (zdO (k:=.i64) (i:=2) u160 zmT q28 rfl rfl (by decide) (by decide)) ?_
    refine t_v (fun w hx=>zfF (v:=.int .u32 (((s3.2.2.2.1).toNat:Int))) zeP (H.ext hx) rfl (k:=0) rfl rfl)<|tp (zbH (bo:=.and) (by simp) rfl rfl (zoH _ _))<|tp (zbH (bo:=.xor) (by simp) rfl rfl (zdJ _ _))<|tp (zdO (k:=.i64) (i:=1) u160 zmT q28 rfl rfl (by decide) (by decide)) ?_
    refine t_v (fun w hx=>zfF (v:=.int .u32 (((s3.2.2.1).toNat:Int))) zeP (H.ext hx) rfl (k:=0) rfl rfl)<|tp (zdO (k:=.i64) (i:=2) u160 zmT q28 rfl rfl (by decide) (by decide))<|t_v (fun w hx=>zfF (v:=.int .u32 (((s3.2.2.2.1).toNat:Int))) zeP (H.ext hx) rfl (k:=0) rfl rfl)<|tp (zbH (bo:=.and) (by simp) rfl rfl (zoH _ _)) ?_
    refine tp (zbH (bo:=.xor) (by simp) rfl rfl (zdJ _ _))<|tp (ziZ rfl rfl (zbG _))<|zmR<|H.tn fun w18 H=>asI rfl<|wpList_nil<|zdC<|xn hK25<|wp_seq_k fun K26 hK26=>wrS H 2 [] fun vs6 H=>?_
    refine tp (yyH (p:=1) u160 zcD q28 rfl (Nat.le_of_ble_eq_true rfl))<|tp (yuB (h:=7) u160 zcD q28 rfl (Nat.le_of_ble_eq_true rfl))<|zmR<|H.tn fun w19 H=>?_
    refine p_ofc (c:=.int .i64 7) (xfE (k:=0) (o1:=1) (o2:=0) (n:=7) (l:=([Value.int .u32 (((s3.2.1).toNat:Int))]++([Value.int .u32 (((s3.2.2.1).toNat:Int))]++([Value.int .u32 (((s3.2.2.2.1).toNat:Int))]++([Value.int .u32 (((s3.2.2.2.2.1).toNat:Int))]++([Value.int .u32 (((s3.2.2.2.2.2.1).toNat:Int))]++([Value.int .u32 (((s3.2.2.2.2.2.2.1).toNat:Int))]++([Value.int .u32 (((s3.2.2.2.2.2.2.2.1).toNat:Int))])))))))) u129 zcD H rfl rfl rfl rfl rfl rfl rfl (onz rfl)) fun w20 H=>?_
    replace H:=hsn H
    refine wpList_nil<|zdC<|xn hK26<|sr fun K27 hK27=>zaC (zdO (k:=.i64) (i:=4) u160 zmT q28 rfl rfl (by decide) (by decide))<|zaC (zfF (v:=.int .u32 (((s3.2.2.2.2.1).toNat:Int))) zeP H rfl (k:=0) rfl rfl)<|mvI rfl<|zaC (ziZ rfl rfl (zbG _))<|zaC (zdO (k:=.i64) (i:=4) u160 zmT q28 rfl rfl (by decide) (by decide)) ?_
    refine zyG (zlQ (k:=0) (l:=[Value.int .u32 ((((i32 (((s3.2.2.2.2.1).toNat:Int)+(((i32 ((((i32 ((((i32 ((((i32 (((s3.2.2.2.2.2.2.2.2).toNat:Int)+((((y15^^^y16)^^^y17)).toNat:Int)))).toNat:Int)+((((s3.2.2.2.2.2.1&&&s3.2.2.2.2.2.2.1)^^^(((4294967295:UInt32)^^^s3.2.2.2.2.2.1)&&&s3.2.2.2.2.2.2.2.1))).toNat:Int)))).toNat:Int)+((y18).toNat:Int)))).toNat:Int)+((y19).toNat:Int)))).toNat:Int)))).toNat:Int))]) zcD H rfl rfl rfl (cells_one rfl) rfl (onz rfl) rfl) fun w21 H=>?_
    refine xk hK27<|wp_region_lit<|mvI rfl<|mvI rfl<|zaC (ziZ rfl rfl (zbG _))<|zaC (zdO (k:=.i64) (i:=0) u160 zmT q28 rfl rfl (by decide) (by decide)) ?_
    refine zyG (zlQ (k:=0) (l:=[Value.int .u32 ((((i32 ((((i32 ((((i32 ((((i32 ((((i32 (((s3.2.2.2.2.2.2.2.2).toNat:Int)+((((y15^^^y16)^^^y17)).toNat:Int)))).toNat:Int)+((((s3.2.2.2.2.2.1&&&s3.2.2.2.2.2.2.1)^^^(((4294967295:UInt32)^^^s3.2.2.2.2.2.1)&&&s3.2.2.2.2.2.2.2.1))).toNat:Int)))).toNat:Int)+((y18).toNat:Int)))).toNat:Int)+((y19).toNat:Int)))).toNat:Int)+(((i32 (((((y20^^^y21)^^^y22)).toNat:Int)+(((((s3.2.1&&&s3.2.2.1)^^^(s3.2.1&&&s3.2.2.2.1))^^^(s3.2.2.1&&&s3.2.2.2.1))).toNat:Int)))).toNat:Int)))).toNat:Int))]) zcD H rfl rfl rfl (cells_one rfl) rfl (onz rfl) rfl) fun w22 H=>?_
    refine wpList_nil<|zdM<|xn hK21<|wp_region_lit<|zaC (zdS q22 rfl)<|mvI rfl<|wpList_nil<|zaJ ?_
    obtain rfl:=osi hb3
    exact⟨((w64 (s3.1+1)),(i32 ((((i32 ((((i32 ((((i32 ((((i32 (((s3.2.2.2.2.2.2.2.2).toNat:Int)+((((y15^^^y16)^^^y17)).toNat:Int)))).toNat:Int)+((((s3.2.2.2.2.2.1&&&s3.2.2.2.2.2.2.1)^^^(((4294967295:UInt32)^^^s3.2.2.2.2.2.1)&&&s3.2.2.2.2.2.2.2.1))).toNat:Int)))).toNat:Int)+((y18).toNat:Int)))).toNat:Int)+((y19).toNat:Int)))).toNat:Int)+(((i32 (((((y20^^^y21)^^^y22)).toNat:Int)+(((((s3.2.1&&&s3.2.2.1)^^^(s3.2.1&&&s3.2.2.2.1))^^^(s3.2.2.1&&&s3.2.2.2.1))).toNat:Int)))).toNat:Int))),s3.2.1,s3.2.2.1,s3.2.2.2.1,(i32 (((s3.2.2.2.2.1).toNat:Int)+(((i32 ((((i32 ((((i32 ((((i32 (((s3.2.2.2.2.2.2.2.2).toNat:Int)+((((y15^^^y16)^^^y17)).toNat:Int)))).toNat:Int)+((((s3.2.2.2.2.2.1&&&s3.2.2.2.2.2.2.1)^^^(((4294967295:UInt32)^^^s3.2.2.2.2.2.1)&&&s3.2.2.2.2.2.2.2.1))).toNat:Int)))).toNat:Int)+((y18).toNat:Int)))).toNat:Int)+((y19).toNat:Int)))).toNat:Int))),s3.2.2.2.2.2.1,s3.2.2.2.2.2.2.1,s3.2.2.2.2.2.2.2.1),_,rfl,(kS k13 rfl kcx),⟨rfl,H⟩,hh3⟩
   ·refine wp_exit ?_
    refine zaW<|zaW<|ziQ<|zaJ ?_
    obtain rfl:=osi hb3
    obtain rfl:=osi hh3
    obtain rfl:=osi hE6
    exact J2 _ _ (kS k13 rfl (kN k12 kcx)) H
  refine sr fun K11 hK11=>asI rfl<|xk hK11<|wp_block<|zbT fun m6 k7=>bn hE3 fun out2 hL2 hE4=>?_
  refine zjM (10::11::12::rg 36 45 []) (fun(s2:Int×(Vec UInt32 64)) (m7:FM) (w8:World)=>look m7 10 = .int .i64 (s2.1)∧HS ⟨S,zbJ [.blk b2_ ((vcl cU32 x2)) 157],w⟩ S w8 [.blk b3 ((vcl cU32 s2.2)) 157,.blk b2 ((zfO ((0:UInt32),(0:UInt32),(0:UInt32),(0:UInt32),(0:UInt32),(0:UInt32),(0:UInt32),(0:UInt32)))) 160,.blk b1 ((zfO x0)) 160,.blk b2_ ((vcl cU32 x2)) 157]) hL2 ⟨(k7 10),H⟩ ?_
  clear H;intro k9 s2 m7 w8 k8 hI2 o4 hb2 hh2;obtain⟨q11,H⟩:=hI2
  have q12:=(k8 2 rfl).trans ((k7 2).trans ((k6 2).trans q7))
  have q13:=(k8 3 rfl).trans ((k7 3).trans ((k6 3).trans q8))
  have q14:=(k8 6 rfl).trans ((k7 6).trans ((k6 6).trans q9))
  have q15:=(k8 7 rfl).trans ((k7 7).trans ((k6 7).trans q10))
  have q16:look m7 9 = .func (.func 160) #[] #[]:=(k8 9 rfl).trans ((k7 9).trans (k6 9))
  refine wp_seq_k fun K12 hK12=>sr fun K13 hK13=>p_mv q11<|zaC (zfP rfl rfl)<|xk hK13 ?_
  refine zfJ hb2 rfl (fun hb2 hc2=>?_) fun hb2 hc2=>?_
  ·refine wp_skip ?_
   refine xn hK12<|wp_seq_k fun K14 hK14=>wp_block<|wp_seq_k fun K15 hK15=>bn hb2 fun y5 e5 hb2=>bn hb2 fun y6 e6 hb2=>wrS H 9 [] fun vs1 H=>?_
   refine tp (zaE q11)<|tp (zoW rfl rfl)<|tp (zdO (i:=((w64 (s2.1-15)):Int).toNat) u157 zmT q15 rfl rfl (by have h1_:=(zaB e5).1;omega) (by have h1_:=(zaB e5).1;have h2_:=zsS e5;omega)) ?_
   refine t_v (fun w hx=>zyI (X:=s2.2) (cf:=fun a_:UInt32=>Value.int .u32 (((a_).toNat:Int))) zeP (H.ext hx) rfl (k:=0) rfl e5)<|tp (zaE q11)<|tp (zoW rfl rfl)<|tp (zdO (i:=((w64 (s2.1-2)):Int).toNat) u157 zmT q15 rfl rfl (by have h1_:=(zaB e6).1;omega) (by have h1_:=(zaB e6).1;have h2_:=zsS e6;omega)) ?_
   refine t_v (fun w hx=>zyI (X:=s2.2) (cf:=fun a_:UInt32=>Value.int .u32 (((a_).toNat:Int))) zeP (H.ext hx) rfl (k:=0) rfl e6)<|tp (ziC (v:=.int .u32 (((y5).toNat:Int))) rfl)<|zmR<|H.tn fun w9 H=>asI rfl<|wpList_nil<|zdC<|xn hK15<|bn hb2 fun y7 e7 hb2=>bn hb2 fun y8 e8 hb2=>bn hb2 fun y9 e9 hb2=>?_
   refine bn hb2 fun y10 e10 hb2=>bn hb2 fun y11 e11 hb2=>bn hb2 fun y12 e12 hb2=>bn hb2 fun y13 e13 hb2=>wrS H 33 [(7,.inl (.int .u32 (((y8).toNat:Int)))),(10,.inl (.int .u32 (((y9).toNat:Int)))),(23,.inl (.int .u32 (((y11).toNat:Int)))),(26,.inl (.int .u32 (((y12).toNat:Int))))] fun vs2 H=>?_
   refine tp (zaE q11)<|tp (zaE q11)<|tp (zoW rfl rfl)<|tp (zdO (i:=((w64 (s2.1-16)):Int).toNat) u157 zmT q15 rfl rfl (by have h1_:=(zaB e7).1;omega) (by have h1_:=(zaB e7).1;have h2_:=zsS e7;omega)) ?_
   refine t_v (fun w hx=>zyI (X:=s2.2) (cf:=fun a_:UInt32=>Value.int .u32 (((a_).toNat:Int))) zeP (H.ext hx) rfl (k:=0) rfl e7)<|tp (zaE (v:=.func (.func 160) #[] #[]) q16)<|tp (zaE (v:=.int .u32 (((y5).toNat:Int))) rfl) ?_
   refine zpY (l:=[.int .u32 (((y5).toNat:Int)),.int .i64 (7)]) rfl rfl rfl ydC rfl (fun w hx hF=>(zbE (H.ext hx).sub e8).mono (fun _ _ h=>h))<|tp (zaE (v:=.func (.func 160) #[] #[]) q16)<|tp (zaE (v:=.int .u32 (((y5).toNat:Int))) rfl) ?_
   refine zpY (l:=[.int .u32 (((y5).toNat:Int)),.int .i64 (18)]) rfl rfl rfl ydC rfl (fun w hx hF=>(zbE (H.ext hx).sub e9).mono (fun _ _ h=>h))<|tp (zbH (bo:=.xor) (by simp) rfl rfl (zdJ _ _))<|tp (zaE (v:=.int .u32 (((y5).toNat:Int))) rfl)<|tp (zqO rfl rfl (by decide) (zpV _ _))<|tp (zbH (bo:=.xor) (by simp) rfl rfl (zdJ _ _)) ?_
   refine tp (ziZ rfl rfl (zbG _))<|tp (zaE q11)<|tp (zoW rfl rfl)<|tp (zdO (i:=((w64 (s2.1-7)):Int).toNat) u157 zmT q15 rfl rfl (by have h1_:=(zaB e10).1;omega) (by have h1_:=(zaB e10).1;have h2_:=zsS e10;omega)) ?_
   refine t_v (fun w hx=>zyI (X:=s2.2) (cf:=fun a_:UInt32=>Value.int .u32 (((a_).toNat:Int))) zeP (H.ext hx) rfl (k:=0) rfl e10)<|tp (ziZ rfl rfl (zbG _))<|tp (zaE (v:=.func (.func 160) #[] #[]) q16)<|tp (zaE (v:=.int .u32 (((y6).toNat:Int))) rfl) ?_
   refine zpY (l:=[.int .u32 (((y6).toNat:Int)),.int .i64 (17)]) rfl rfl rfl ydC rfl (fun w hx hF=>(zbE (H.ext hx).sub e11).mono (fun _ _ h=>h))<|tp (zaE (v:=.func (.func 160) #[] #[]) q16)<|tp (zaE (v:=.int .u32 (((y6).toNat:Int))) rfl) ?_
   refine zpY (l:=[.int .u32 (((y6).toNat:Int)),.int .i64 (19)]) rfl rfl rfl ydC rfl (fun w hx hF=>(zbE (H.ext hx).sub e12).mono (fun _ _ h=>h))<|tp (zbH (bo:=.xor) (by simp) rfl rfl (zdJ _ _))<|tp (zaE (v:=.int .u32 (((y6).toNat:Int))) rfl)<|tp (zqO rfl rfl (by decide) (zpV _ _))<|tp (zbH (bo:=.xor) (by simp) rfl rfl (zdJ _ _)) ?_
   refine tp (ziZ rfl rfl (zbG _))<|tp (zdO (i:=(s2.1:Int).toNat) u157 zmT q15 rfl rfl (by have h1_:=(zaB e13).1;omega) (by have h1_:=(zaB e13).1;have h2_:=zsS e13;omega)) ?_
   refine zmR<|H.tn fun w10 H=>bn hb2 fun y14 e14 hb2=>?_
   refine zyG (yoW (X:=s2.2) (cf:=fun a_:UInt32=>Value.int .u32 (((a_).toNat:Int))) (u:=(i32 ((((i32 ((((i32 (((y7).toNat:Int)+((((y8^^^y9)^^^(i32 (shrI .u32 ((y5).toNat:Int) 3)))).toNat:Int)))).toNat:Int)+((y10).toNat:Int)))).toNat:Int)+((((y11^^^y12)^^^(i32 (shrI .u32 ((y6).toNat:Int) 10)))).toNat:Int)))) (k:=0) zcD H rfl rfl rfl rfl e14) fun w11 H=>?_
   refine wpList_nil<|zdC<|zdM<|xn hK14<|wp_region_lit<|p_mv q11<|zaC (zdS rfl rfl)<|asI rfl<|wpList_nil<|zaJ ?_
   obtain rfl:=osi hb2
   exact⟨((w64 (s2.1+1)),y14),_,rfl,(kS k8 rfl kcx),⟨rfl,H⟩,hh2⟩
  ·refine wp_exit ?_
   refine zaW<|zaW<|ziQ<|zaJ ?_
   obtain rfl:=osi hb2
   obtain rfl:=osi hh2
   obtain rfl:=osi hE4
   exact J3 _ _ (kS k8 rfl (kN k7 kcx)) H
 refine sr fun K4 hK4=>mvI rfl<|xk hK4<|wp_block<|zbT fun m2 k2=>bn hE1 fun out1 hL1 hE2=>?_
 refine zjM (8::rg 20 16 []) (fun(s1:Int×(Vec UInt32 64)) (m3:FM) (w4:World)=>look m3 20 = .int .i64 (s1.1)∧HS ⟨S,zbJ [.blk b2_ ((vcl cU32 x2)) 157],w⟩ S w4 [.blk b3 ((vcl cU32 s1.2)) 157,.blk b2 ((zfO ((0:UInt32),(0:UInt32),(0:UInt32),(0:UInt32),(0:UInt32),(0:UInt32),(0:UInt32),(0:UInt32)))) 160,.blk b1 ((zfO x0)) 160,.blk b2_ ((vcl cU32 x2)) 157]) hL1 ⟨(k2 20),H⟩ ?_
 clear H;intro k4 s1 m3 w4 k3 hI1 o2 hb1 hh1;obtain⟨q1,H⟩:=hI1
 have q2:look m3 1=v1_:=(k3 1 rfl).trans ((k2 1).trans (k1 1))
 have q3:look m3 2 = .pointer (some ⟨b2_,0,none⟩):=(k3 2 rfl).trans ((k2 2).trans (k1 2))
 have q4:look m3 3 = .pointer (some ⟨b1,0,none⟩):=(k3 3 rfl).trans ((k2 3).trans (k1 3))
 have q5:look m3 6 = .pointer (some ⟨b2,0,none⟩):=(k3 6 rfl).trans ((k2 6).trans (k1 6))
 have q6:look m3 7 = .pointer (some ⟨b3,0,none⟩):=(k3 7 rfl).trans ((k2 7).trans (k1 7))
 refine sr fun K5 hK5=>zaC (zfP q1 rfl)<|xk hK5<|wp_seq_k fun K6 hK6=>?_
 refine zfJ hb1 rfl (fun hb1 hc1=>?_) fun hb1 hc1=>?_
 ·refine wp_skip ?_
  refine xn hK6<|wp_seq_k fun K7 hK7=>wp_block<|sr fun K8 hK8=>p_mv q1<|asI rfl<|xk hK8<|wp_region_lit<|mvI rfl ?_
  refine p_mv (v:=v1_) q2<|mvI rfl<|zaC (yeA rfl rfl)<|mvI rfl<|zaC (yeA rfl rfl)<|zaC (zdS rfl rfl)<|bn hb1 fun y1 e1 hb1=>zaC (ytB (p:=((w64 ((4:Int)*s1.1)):Int).toNat) (h:=((w64 ((w64 ((4:Int)*s1.1))+4)):Int).toNat) u100 tsz5 rfl rfl rfl (zoM e1).1 (zoM e1).2.1 h1_ (zoM e1).2.2.1 (zoM e1).2.2.2.1) ?_
  have g1:RdS S (subN v1_ 1 ((w64 ((4:Int)*s1.1)):Int).toNat ((w64 ((w64 ((4:Int)*s1.1))+4)):Int).toNat) y1:=RdS.subLH h1_ e1
  refine zaC (r_strS u100 u5 u9 rfl g1 H.sub)<|bn hb1 fun y2 e2 hb1=>zeX is159 rfl<|(yiV H.sub e2).mono<|H.xe fun w5 H=>zaC (zhY u102 u133 rfl (zbG _))<|bn hb1 fun y3 e3 hb1=>zaC (zdO (i:=(s1.1:Int).toNat) u157 zmT q6 rfl rfl (by have h1_:=(zaB e3).1;omega) (by have h1_:=(zaB e3).1;have h2_:=zsS e3;omega)) ?_
  refine bn hb1 fun y4 e4 hb1=>zyG (yoW (X:=s1.2) (cf:=fun a_:UInt32=>Value.int .u32 (((a_).toNat:Int))) (u:=(i32 ((y2).toNat:Int))) (k:=0) zcD H rfl rfl rfl rfl e4) fun w6 H=>wpList_nil<|zdM<|xn hK7<|wp_region_lit<|zaC (zdS q1 rfl)<|mvI rfl<|wpList_nil ?_
  refine zaJ ?_
  obtain rfl:=osi hb1
  exact⟨((w64 (s1.1+1)),y4),_,rfl,(kS k3 rfl kcx),⟨rfl,H⟩,hh1⟩
 ·refine wp_exit ?_
  refine zaW<|zaW<|ziQ<|zaJ ?_
  obtain rfl:=osi hb1
  obtain rfl:=osi hh1
  obtain rfl:=osi hE2
  exact J4 _ _ (kS k3 rfl (kN k2 kcx)) H
def zoA(s1:Bs):Option ((Bs)⊕(Bs)):=
  bif((Int.tmod ((s1).length:Int) 64) != 56)then(Option.bind (app s1 ([0]:Bs)) fun y2=>some (.inl (y2)))else(some (.inr (s1)))
def zrG(s2:Bs×UInt32×UInt32×UInt32×UInt32×UInt32×UInt32×UInt32×UInt32×(Vec UInt32 64)):Option ((Bs×UInt32×UInt32×UInt32×UInt32×UInt32×UInt32×UInt32×UInt32×(Vec UInt32 64))⊕(UInt32×UInt32×UInt32×UInt32×UInt32×UInt32×UInt32×UInt32×(Vec UInt32 64))):=
  bif decide ((0:Int)<((s2.1).length:Int))then(Option.bind (subH s2.1 64) fun y5=>Option.bind (ziE (s2.2.1,s2.2.2.1,s2.2.2.2.1,s2.2.2.2.2.1,s2.2.2.2.2.2.1,s2.2.2.2.2.2.2.1,s2.2.2.2.2.2.2.2.1,s2.2.2.2.2.2.2.2.2.1) y5 s2.2.2.2.2.2.2.2.2.2) fun y6=>Option.bind (subL s2.1 64) fun y7=>some (.inl ((y7,y6.1.1,y6.1.2.1,y6.1.2.2.1,y6.1.2.2.2.1,y6.1.2.2.2.2.1,y6.1.2.2.2.2.2.1,y6.1.2.2.2.2.2.2.1,y6.1.2.2.2.2.2.2.2,y6.2))))else(some (.inr ((s2.2.1,s2.2.2.1,s2.2.2.2.1,s2.2.2.2.2.1,s2.2.2.2.2.2.1,s2.2.2.2.2.2.2.1,s2.2.2.2.2.2.2.2.1,s2.2.2.2.2.2.2.2.2.1,s2.2.2.2.2.2.2.2.2.2))))
def zrC(t2:UInt32×UInt32×UInt32×UInt32×UInt32×UInt32×UInt32×UInt32×(Vec UInt32 64))(s3:Bs×Int):Option ((Bs×Int)⊕(Bs)):=
  bif decide (s3.2<8)then(Option.bind (idx ([t2.1,t2.2.1,t2.2.2.1,t2.2.2.2.1,t2.2.2.2.2.1,t2.2.2.2.2.2.1,t2.2.2.2.2.2.2.1,t2.2.2.2.2.2.2.2.1]:List UInt32) s3.2) fun y8=>Option.bind (zqG s3.1 (i64 ((y8).toNat:Int)) 4) fun y9=>some (.inl ((y9,(w64 (s3.2+1))))))else(some (.inr (s3.1)))
def zlP(x0:Bs):Option (Bs):=
  Option.bind (app x0 ([128]:Bs)) fun y1=>Option.bind (Option.bind (iter (zoA) (y1)) (fun e=>some (e))) (fun t1=>Option.bind (zqG t1 (i64 ((8:Int)*(((i64 ((x0).length:Int))).toNat:Int))) 8) fun y3=>Option.bind (zrD) fun y4=>Option.bind (Option.bind (iter (zrG) ((y3,(1779033703:UInt32),(3144134277:UInt32),(1013904242:UInt32),(2773480762:UInt32),(1359893119:UInt32),(2600822924:UInt32),(528734635:UInt32),(1541459225:UInt32),y4))) (fun e=>some (e))) (fun t2=>Option.bind (Option.bind (iter (zrC t2) ((([]:Bs),0))) (fun e=>some (e))) (fun t3=>some (t3))))
theorem zxV (hS : Sub S w) {x0 : Bs} {r : Bs} (hF : zlP x0 = some r) :
    Calls Tryz.prog 97 #[str (x0)] w fun e w'=>e = .returned (str (r))∧Ext w w':=by
 refine enter (n:=48) Tryz.func97 rfl rfl rfl ?_
 have H:=HS.start hS
 refine sr fun K1 hK1=>asT rfl<|xk hK1<|sr fun K2 hK2=>mvT rfl<|zxE (yhI (l:=x0) u9 u100 u5 H rfl) ?_;clear H;rintro w1 v1 ⟨rs1,H⟩
 have g1:RL S (u8s x0) x0:=RL.of_u8s _
 refine zxX (zfS (N:=1) (xs:=([128]:Bs)) (RL.cons (ylO (x:=(128:UInt8)) rfl) RL.nil) znF H rfl rfl rfl) fun w2 v2 cs1 H g2=>bn hF fun y1 e1 hF=>zvI (zgF (k:=1) (v2:=v2) znF rfl H rfl rfl g1 rfl (H.slW (k:=0) rfl) g2 e1) fun w3 v3 cs2 rs2 H g3=>?_
 replace H:=H.sel [1] rfl
 replace H:=hsn H
 refine p_as (v:=v3) rfl<|xk hK2<|wp_seq_k fun K3 hK3=>zbT fun m1 k1=>bn hF fun t1 hE1 hF1=>?_
 have J3:∀(v7:Value) (cs6 rs5:LV) (m4:FM) (w7:World),Kp (3::rg 13 7 []) m4 m1→look m4 3=v7→HS ⟨S,[],w⟩ S w7 [.osl (v7) (t1).length 1 cs6 rs5 5]→RL S cs6 t1→K3 (fr 48 m4) w7:=by
  clear H;intro v7 cs6 rs5 m4 w7 k5 q3 H g7
  have q4:look m4 0=str (x0):=(k5 0 rfl).trans (k1 0)
  refine hK3 _ _<|sr fun K6 hK6=>p_mv (v:=v7) q3<|p_mv q4<|zaC (zqM (N:=(x0).length) u9 rfl rfl)<|zaC (zhY u3 u102 rfl (zbR _))<|zaC (ydJ rfl rfl (zbR _))<|bn hF1 fun y3 e3 hF1=>zeX is118 rfl ?_
  refine(ydM (H.hand [0] rfl) g7 e3).mono ?_;rintro _ w8 ⟨S1,pv1,pcs1,prs1,rfl,H2,pg1⟩
  obtain⟨H1,hle1⟩:=H.frame [0] [] rfl H2;clear H H2;have H:=H1;clear H1
  replace H:=hsn H
  refine p_as (v:=pv1) rfl<|xk hK6<|sr fun K7 hK7=>bn hF1 fun y4 e4 hF1=>zeX is124 rfl<|(ylH H.sub e4).mono<|H.xe fun w9 H=>yjL (zrN (l:=(vcl cU32 (vrep 64 (0:UInt32)))) H yzR rfl) fun w10 b1 H=>?_
  refine zyG (yjK (X:=(vrep 64 (0:UInt32))) (Y:=y4) (cf:=fun a_:UInt32=>Value.int .u32 a_.I) (k:=0) xdX H rfl rfl rfl (fun _=>rfl)) fun w11 H=>xk hK7<|sr fun K8 hK8=>?_
  refine zaC (ygV (vals:=[(0,.int .u32 (1779033703)),(1,.int .u32 (3144134277)),(2,.int .u32 (1013904242)),(3,.int .u32 (2773480762)),(4,.int .u32 (1359893119)),(5,.int .u32 (2600822924)),(6,.int .u32 (528734635)),(7,.int .u32 (1541459225))]) (l:=(zfO ((1779033703:UInt32),(3144134277:UInt32),(1013904242:UInt32),(2773480762:UInt32),(1359893119:UInt32),(2600822924:UInt32),(528734635:UInt32),(1541459225:UInt32)))) tb160 rfl rfl) ?_
  refine yjL (zrN (l:=(zfO ((0:UInt32),(0:UInt32),(0:UInt32),(0:UInt32),(0:UInt32),(0:UInt32),(0:UInt32),(0:UInt32)))) H xaK rfl) fun w12 b2 H=>?_
  refine zyG (zlQ (k:=0) (l:=(zfO ((1779033703:UInt32),(3144134277:UInt32),(1013904242:UInt32),(2773480762:UInt32),(1359893119:UInt32),(2600822924:UInt32),(528734635:UInt32),(1541459225:UInt32)))) yqL H rfl rfl rfl (ztE _) rfl (onz rfl) rfl) fun w13 H=>xk hK8<|wp_seq_k fun K9 hK9=>?_
  obtain⟨S2,hle2,g8,H1⟩:=H.fixX (k:=2) rfl pg1;clear H;have H:=H1;clear H1
  replace H:=hsn H
  refine zbT fun m5 k6=>bn hF1 fun t2 hE3 hF2=>?_
  have J2:∀(S5:Mem) (m8:FM) (w18:World),Kp (3::rg 28 9 []) m8 m5→Mem.le S2 S5→HS ⟨S,[],w⟩ S5 w18 [.blk b2 ((zfO (t2.1,t2.2.1,t2.2.2.1,t2.2.2.2.1,t2.2.2.2.2.1,t2.2.2.2.2.2.1,t2.2.2.2.2.2.2.1,t2.2.2.2.2.2.2.2.1))) 160,.blk b1 ((vcl cU32 t2.2.2.2.2.2.2.2.2)) 157]→K9 (fr 48 m8) w18:=by
   clear H;intro S5 m8 w18 k10 hle5 H
   replace g8:=g8.mono hle5
   have q8:look m8 5 = .pointer (some ⟨b2,0,none⟩):=(k10 5 rfl).trans (k6 5)
   refine hK9 _ _<|sr fun K13 hK13=>asN rfl<|xk hK13<|wp_seq_k fun K14 hK14=>zbT fun m9 k11=>bn hF2 fun t3 hE5 hF3=>?_
   have J1:∀(v10:Value) (cs8 rs7:LV) (S8:Mem) (m12:FM) (w21:World),Kp (6::8::rg 37 9 []) m12 m9→look m12 6=v10→Mem.le S5 S8→HS ⟨S,[],w⟩ S8 w21 [.osl (v10) (t3).length 1 cs8 rs7 5,.blk b2 ((zfO (t2.1,t2.2.1,t2.2.2.1,t2.2.2.2.1,t2.2.2.2.2.1,t2.2.2.2.2.2.1,t2.2.2.2.2.2.2.1,t2.2.2.2.2.2.2.2.1))) 160,.blk b1 ((vcl cU32 t2.2.2.2.2.2.2.2.2)) 157]→RL S8 cs8 t3→K14 (fr 48 m12) w21:=by
    clear H;intro v10 cs8 rs7 S8 m12 w21 k15 q12 hle8 H g14
    replace g8:=g8.mono hle8
    refine hK14 _ _<|sr fun K20 hK20=>p_mv (v:=v10) q12<|zaC (ykN u100 u5 u9 rfl H (k:=0) rfl g14)<|asT rfl<|xk hK20<|wp_ret ?_
    obtain rfl:=osi hF3
    refine e_1 rfl (ziX rfl) ?_
    exact⟨rfl,H.toExt⟩
   refine sr fun K15 hK15=>zaC (ypR (l:=(zfO (t2.1,t2.2.1,t2.2.2.1,t2.2.2.2.1,t2.2.2.2.2.1,t2.2.2.2.2.2.1,t2.2.2.2.2.2.2.1,t2.2.2.2.2.2.2.2.1))) yvT H ((k11 5).trans q8) (k:=0) rfl rfl rfl)<|mvI rfl<|xk hK15<|wp_block<|zbT fun m10 k12=>bn hE5 fun out3 hL3 hE6=>?_
   replace H:=H.nilOwn 1 5;have g13:RL S5 [] ([]:Bs):=RL.nil
   replace H:=hsn H
   refine zjM (6::8::rg 38 8 []) (fun(s3:Bs×Int) (m11:FM) (w19:World)=>∃(S6:Mem) (v9:Value) (cs7 rs6:LV),look m11 6=v9∧look m11 38 = .int .i64 (s3.2)∧Mem.le S5 S6∧HS ⟨S,[],w⟩ S6 w19 [.osl (v9) (s3.1).length 1 cs7 rs6 5,.blk b2 ((zfO (t2.1,t2.2.1,t2.2.2.1,t2.2.2.2.1,t2.2.2.2.2.1,t2.2.2.2.2.2.1,t2.2.2.2.2.2.2.1,t2.2.2.2.2.2.2.2.1))) 160,.blk b1 ((vcl cU32 t2.2.2.2.2.2.2.2.2)) 157]∧RL S6 cs7 s3.1) hL3 ⟨_,_,_,_,(show _=(.slice none 0 0:Value)from((k12 6).trans (k11 6))),(k12 38),(Mem.le_refl _),H,g13⟩ ?_
   clear H;intro k14 s3 m11 w19 k13 hI3 o6 hb3 hh3;obtain⟨S6,v9,cs7,rs6,q9,q10,hle6,H,g12⟩:=hI3
   replace g8:=g8.mono hle6
   have q11:look m11 37 = .agg ((zfO (t2.1,t2.2.1,t2.2.2.1,t2.2.2.2.1,t2.2.2.2.2.1,t2.2.2.2.2.2.1,t2.2.2.2.2.2.2.1,t2.2.2.2.2.2.2.2.1))).toArray:=(k13 37 rfl).trans (k12 37)
   refine sr fun K16 hK16=>zaC (zfP q10 rfl)<|xk hK16<|wp_seq_k fun K17 hK17=>?_
   refine zfJ hb3 rfl (fun hb3 hc3=>?_) fun hb3 hc3=>?_
   ·refine wp_skip ?_
    refine xn hK17<|wp_seq_k fun K18 hK18=>wp_block<|sr fun K19 hK19=>bn hb3 fun y8 e8 hb3=>zaC (r_idxAV (cf:=fun a_:UInt32=>Value.int .u32 a_.I) u160 zeP q11 q10 rfl rfl e8)<|asI rfl<|xk hK19<|wp_region_lit ?_
    refine p_mv (v:=v9) q9<|mvI rfl<|zaC (zhY u133 u102 rfl (zbR _))<|bn hb3 fun y9 e9 hb3=>zeX is118 rfl<|(ydM (H.hand [0] rfl) g12 e9).mono ?_;rintro _ w20 ⟨S7,pv2,pcs2,prs2,rfl,H2,pg2⟩
    obtain⟨H1,hle7⟩:=H.frame [0] [1,2] rfl H2;clear H H2;have H:=H1;clear H1
    replace H:=hsn H
    refine p_as (v:=pv2) rfl<|wpList_nil<|zdM<|xn hK18<|wp_region_lit<|zaC (zdS q10 rfl)<|mvI rfl<|wpList_nil<|zaJ ?_
    obtain rfl:=osi hb3
    exact⟨(y9,(w64 (s3.2+1))),_,rfl,(kS k13 rfl kcx),⟨_,_,_,_,rfl,rfl,(Mem.le_trans hle6 hle7),H,pg2⟩,hh3⟩
   ·refine wp_exit ?_
    refine zaW<|zaW<|ziQ<|zaJ ?_
    obtain rfl:=osi hb3
    obtain rfl:=osi hh3
    obtain rfl:=osi hE6
    exact J1 _ _ _ _ _ _ (kS k13 rfl (kN k12 kcx)) (show _=(v9:Value)from q9) hle6 H g12
  refine wp_block<|zbT fun m6 k7=>bn hE3 fun out2 hL2 hE4=>?_
  refine zjM (3::rg 28 9 []) (fun(s2:Bs×UInt32×UInt32×UInt32×UInt32×UInt32×UInt32×UInt32×UInt32×(Vec UInt32 64)) (m7:FM) (w14:World)=>∃(S3:Mem) (v8:Value),look m7 3=v8∧Mem.le S2 S3∧HS ⟨S,[],w⟩ S3 w14 [.blk b2 ((zfO (s2.2.1,s2.2.2.1,s2.2.2.2.1,s2.2.2.2.2.1,s2.2.2.2.2.2.1,s2.2.2.2.2.2.2.1,s2.2.2.2.2.2.2.2.1,s2.2.2.2.2.2.2.2.2.1))) 160,.blk b1 ((vcl cU32 s2.2.2.2.2.2.2.2.2.2)) 157]∧RdS S3 v8 s2.1) hL2 ⟨_,_,(show _=(pv1:Value)from((k7 3).trans (k6 3))),(Mem.le_refl _),H,g8⟩ ?_
  clear H;intro k9 s2 m7 w14 k8 hI2 o4 hb2 hh2;obtain⟨S3,v8,q5,hle3,H,g9⟩:=hI2
  replace g8:=g8.mono hle3
  have q6:look m7 4 = .pointer (some ⟨b1,0,none⟩):=(k8 4 rfl).trans ((k7 4).trans (k6 4))
  have q7:look m7 5 = .pointer (some ⟨b2,0,none⟩):=(k8 5 rfl).trans ((k7 5).trans (k6 5))
  refine wp_seq_k fun K10 hK10=>sr fun K11 hK11=>p_mv (v:=v8) q5<|zaC (r_lenR' u100 rfl g9 H.sub)<|zaC (yaE rfl rfl)<|xk hK11 ?_
  refine zfJ hb2 rfl (fun hb2 hc2=>?_) fun hb2 hc2=>?_
  ·refine wp_skip ?_
   refine xn hK10<|wp_seq_k fun K12 hK12=>wp_block<|bn hb2 fun y5 e5 hb2=>?_
   have g10:RdS S3 (subN v8 1 0 (64:Int).toNat) y5:=RdS.subH g9 e5
   refine wrS H 3 [] fun vs1 H=>?_
   refine t_v (fun w hx=>ypR (l:=(zfO (s2.2.1,s2.2.2.1,s2.2.2.2.1,s2.2.2.2.2.1,s2.2.2.2.2.2.1,s2.2.2.2.2.2.2.1,s2.2.2.2.2.2.2.2.1,s2.2.2.2.2.2.2.2.2.1))) yvT (H.ext hx) q7 (k:=0) rfl rfl rfl)<|tp (zaE (v:=v8) q5)<|tp (ypP (h:=(64:Int).toNat) u100 tsz5 rfl rfl (ziY e5).1 g9 (ziY e5).2.1)<|zmR<|H.tn fun w15 H=>bn hb2 fun y6 e6 hb2=>?_
   refine zeX is125 (zqN rfl (zqN rfl (zqN q6 ygC)))<|(zxO (H.hand [1] rfl) g10 e6).mono ?_;rintro _ w16 ⟨S4,rfl,H2⟩
   obtain⟨H1,hle4⟩:=H.frame [1] [0] rfl H2;clear H H2;have H:=H1;clear H1
   replace g9:=g9.mono hle4
   replace g10:=g10.mono hle4
   refine zyG (zlQ (k:=1) (l:=(zfO y6.1)) yqL H q7 rfl rfl (ztE _) rfl (onz rfl) rfl) fun w17 H=>wpList_nil<|zdC<|zdM<|xn hK12<|wp_region_lit<|p_mv (v:=v8) q5<|bn hb2 fun y7 e7 hb2=>zaC (ywL (p:=(64:Int).toNat) u100 tsz5 rfl rfl (zlY e7).1 g9 (zlY e7).2.1) ?_
   have g11:RdS S4 (subN v8 1 (64:Int).toNat (s2.1).length) y7:=RdS.subL g9 e7
   refine p_as (v:=(subN v8 1 (64:Int).toNat (s2.1).length)) rfl<|wpList_nil<|zaJ ?_
   replace H:=H.sel [1,0] rfl
   replace H:=hsn H
   obtain rfl:=osi hb2
   exact⟨(y7,y6.1.1,y6.1.2.1,y6.1.2.2.1,y6.1.2.2.2.1,y6.1.2.2.2.2.1,y6.1.2.2.2.2.2.1,y6.1.2.2.2.2.2.2.1,y6.1.2.2.2.2.2.2.2,y6.2),_,rfl,(kS k8 rfl kcx),⟨_,_,rfl,(Mem.le_trans hle3 hle4),H,g11⟩,hh2⟩
  ·refine wp_exit ?_
   refine zaW<|zaW<|ziQ<|zaJ ?_
   obtain rfl:=osi hb2
   obtain rfl:=osi hh2
   obtain rfl:=osi hE4
   exact J2 _ _ _ (kS k8 rfl (kN k7 kcx)) hle3 H
 refine wp_block<|zbT fun m2 k2=>bn hE1 fun out1 hL1 hE2=>zjM (3::rg 13 7 []) (fun(s1:Bs) (m3:FM) (w4:World)=>∃(v4:Value) (cs3 rs3:LV),look m3 3=v4∧HS ⟨S,[],w⟩ S w4 [.osl (v4) (s1).length 1 cs3 rs3 5]∧RL S cs3 s1) hL1 ⟨_,_,_,(show _=(v3:Value)from((k2 3).trans (k1 3))),H,g3⟩ ?_
 clear H;intro k4 s1 m3 w4 k3 hI1 o2 hb1 hh1;obtain⟨v4,cs3,rs3,q1,H,g4⟩:=hI1
 have q2:look m3 0=str (x0):=(k3 0 rfl).trans ((k2 0).trans (k1 0))
 refine wp_seq_k fun K4 hK4=>sr fun K5 hK5=>p_mv (v:=v4) q1<|zaC (zwZ u100 rfl H (k:=0) rfl rfl)<|zaC (xbX (r:=Int.tmod ((s1).length:Int) 64) rfl rfl (by decide) rfl)<|zaC (yoG rfl rfl)<|xk hK5 ?_
 refine zfJ hb1 rfl (fun hb1 hc1=>?_) fun hb1 hc1=>?_
 ·refine wp_skip ?_
  refine xn hK4<|wp_block<|wp_region_lit<|p_mv (v:=v4) q1<|zxX (zfS (N:=1) (xs:=([0]:Bs)) (RL.cons (ylO (x:=(0:UInt8)) rfl) RL.nil) znF H rfl rfl rfl) fun w5 v5 cs4 H g5=>bn hb1 fun y2 e2 hb1=>zvI (zgF (k:=1) (v2:=v5) znF rfl H rfl rfl g4 rfl (H.slW (k:=0) rfl) g5 e2) fun w6 v6 cs5 rs4 H g6=>?_
  replace H:=H.sel [1] rfl
  replace H:=hsn H
  refine p_as (v:=v6) rfl<|wpList_nil<|zdM<|zaJ ?_
  obtain rfl:=osi hb1
  exact⟨y2,_,rfl,(kS k3 rfl kcx),⟨_,_,_,rfl,H,g6⟩,hh1⟩
 ·refine wp_exit ?_
  refine zaW<|zaW<|ziQ<|zaJ ?_
  obtain rfl:=osi hb1
  obtain rfl:=osi hh1
  obtain rfl:=osi hE2
  exact J3 _ _ _ _ _ (kS k3 rfl (kN k2 kcx)) (show _=(v4:Value)from q1) H g4
end
def putB(xs:Bs)(p:Nat)(ys:Bs):Bs:=xs.take p++(ys.take (xs.length-p)++xs.drop (p+min ys.length (xs.length-p)))
theorem zwN(xs:Bs)(p:Nat)(ys:Bs)(h:p≤xs.length):(putB xs p ys).length=xs.length:=by
 simp only[putB,List.length_append,List.length_take,List.length_drop];omega
noncomputable def anyJ{α:Type}(n:Nat)(f:Bs→Option α):Option α:=by
 classical exact if h:∃r,∀l:Bs,l.length=n→f l=some r then some (Classical.choose h)else none
theorem yuT{α:Type}{n:Nat}{f:Bs→Option α}{r:α}(h:anyJ n f=some r)(l:Bs)(hl:l.length=n):f l=some r:=by
 unfold anyJ at h
 split at h
 ·rename_i hc
  obtain rfl:=osi h
  exact Classical.choose_spec hc l hl
 ·cases h
theorem ysC{α:Type}{n:Nat}{f:Bs→Option α}{r:α}(h:∀l:Bs,l.length=n→f l=some r):anyJ n f=some r:=by
 unfold anyJ
 have hc:∃r,∀l:Bs,l.length=n→f l=some r:=⟨r,h⟩
 rw[dif_pos hc]
 have h1:=Classical.choose_spec hc (List.replicate n 0) (by simp)
 rw[h _ (by simp)]at h1
 exact h1.symm
theorem RL.u8{S:Mem}:∀{xs:Bs} {cs:LV},RL S cs xs→cs=u8s xs
 |[],_,h=>h
 |x::xs,_,⟨c,d,e,h1,h2⟩=>by
  obtain rfl:=elU8 h1
  rw[e,RL.u8 h2];rfl
theorem yiY:∀(n t:Nat) (acc:Bs),∃l:Bs,l.length=n∧Extern.BytealgMakeNoZero.digits n t (u8s acc).toArray=(u8s (acc++l)).toArray
 |0,_,acc=>⟨[],rfl,by simp[Extern.BytealgMakeNoZero.digits]⟩
 |n+1,t,acc=>by
  obtain⟨l,h1,h2⟩:=yiY n (t/256) (acc++[UInt8.ofNat (t%256)])
  refine⟨UInt8.ofNat (t%256)::l,by simp[h1],?_⟩
  have e:((u8s acc).toArray.push (.int .u8 (Int.ofNat (t%256))))=(u8s (acc++[UInt8.ofNat (t%256)])).toArray:=by
   simp[u8s]
  rw[Extern.BytealgMakeNoZero.digits,e,h2];simp
section
variable {P:Program}
theorem run_mnz(w:World)(ps:Array TypeId)(t e:TypeId)(ht:P.underlying t=some (.slice e))(n:Nat)(hn:n≤281474976710656):
  ∃l:Bs,n≤l.length∧(Extern.BytealgMakeNoZero.makeNoZero ps #[t] #[.int .i64 n]).run P w = .ok (sl w.heap.size 0 n l.length) (w.drew.drew.alloc (.cells (u8s l).toArray e)):=by
 obtain ⟨l, h1, h2⟩ := yiY (grownCap w n 0 e) ((Question.extern "internal/bytealg.MakeNoZero.bytes" 0).cut (w.tape (w.drawn + 1) (.extern "internal/bytealg.MakeNoZero.bytes" 0))) []
 refine⟨l,by rw[h1];simpa using grownCap_ge w n 0 e,?_⟩
 have a1:¬(n:Int)<0:=by omega
 have a2:¬(281474976710656:Int)<(n:Int):=by omega
 rw[show(u8s l).toArray=Extern.BytealgMakeNoZero.digits (grownCap w n 0 e) _ #[]from h2.symm,h1]
 delta Extern.BytealgMakeNoZero.makeNoZero
 delta Extern.BytealgMakeNoZero.makeNoZero.match_3
 delta Extern.BytealgMakeNoZero.makeNoZero._sparseCasesOn_3 Extern.BytealgMakeNoZero.makeNoZero._sparseCasesOn_4
 dsimp [Array.getLit]
 simp[run_underlying ht,a1,a2,Question.forced,newRow,grownCap,sl]
end
section
variable {P:Program}{w:World}{B:Bas}{S:Mem}{L:List Res}{T T' E dT sT:TypeId}{e:Operand→Value}{x y lo hi mx:Operand}{dst:Option Tmp}{pos:String}{aft:Array Edge}{ty:TypeId}{g:Option (Nat×Bool)}{v:Value}{k1 k2:IntKind}
theorem a_mnz {fn : Func} {f : FuncId} {at_ ps : Array TypeId} {t : TypeId} {a : Int} (hf : P.funcs[f]? = some fn) (hname : (fn.name == "runtime.NumGoroutine") = false) (hb : fn.body.isNone = true) (hn : Extern.findNext fn = none)
  (he:Extern.find fn=some (Extern.BytealgMakeNoZero.makeNoZero ps #[t])) (ht:P.underlying t=some (.slice E)) (he0:e (.func f) = .func (.func f) #[] #[]) (H:HS B S w L) (hx:e x = .int .i64 a) (h0:0≤a) (h1:a≤(LIM:Int)):
  ∃w' v,(execOp e ⟨dst,.call ⟨.value (.func f),#[x],at_⟩,ty,pos,aft,g⟩).run P w = .ok (.value v) w'∧∃b c jk jr,v=sl b 0 jk.length c∧jk.length=a.toNat∧HS B S w' (.osl (sl b 0 jk.length c) jk.length 1 (u8s jk) (u8s jr) E::L):=by
 have h1':a≤68719476736:=h1
 obtain⟨n,rfl⟩:=Int.eq_ofNat_of_zero_le h0
 obtain⟨l,hl,hrun⟩:=run_mnz w ps t E ht n (by omega)
 have hc:(callFunc f #[.int .i64 (n:Int)]).run P w = .ok (.value (sl w.heap.size 0 n l.length)) (w.drew.drew.alloc (.cells (u8s l).toArray E)):=by
  rw[run_callFunc_extern hf hname hb hn he,hrun];rfl
 have hlen:(l.take n).length=n:=by simp;omega
 have hop:(execOp e ⟨dst,.call ⟨.value (.func f),#[x],at_⟩,ty,pos,aft,g⟩).run P w = .ok (.value (sl w.heap.size 0 n l.length)) (w.drew.drew.alloc (.cells (u8s l).toArray E)):=by
  simp only[execOp,resolve,he0,Deferred.ofValue,Sem.run_bind,Sem.run_pure,Result.andThen,invoke]
  simpa[hx]using hc
 refine⟨_,_,hop,w.heap.size,l.length,l.take n,l.drop n,by rw[hlen],by rw[hlen];exact(Int.toNat_natCast n).symm,?_⟩
 rw[hlen]
 refine H.push (Ext.trans (Ext.drew w) (Ext.trans (Ext.drew w.drew) (Ext.alloc w.drew.drew _))) (.inr ⟨w.heap.size,l.length,(0,0),rfl,hl,by simp[u8s];omega,by simp[u8s],?_,.inl rfl⟩) fun b hb=>by cases hb;exact Nat.le_refl _
 have:u8s (l.take n)++u8s (l.drop n)=u8s l:=by simp only[u8s,←List.map_append,List.take_append_drop]
 rw[this]
 exact zaI w.drew.drew _
theorem xaE{b c N sz:Nat}{a:Int}(hu:P.underlying T=some (.slice E))(ts:TSz P E sz)(hx:e x=sl b 0 N c)(hy:e hi = .int k1 a)(hz:e mx = .int k2 a)(ha:a=(N:Int))(hc:N≤c):
  (execOp e ⟨dst,.slice T x none (some hi) (some mx),ty,pos,aft,g⟩).run P w = .ok (.value (sl b 0 N N)) w:=by
 simp[execOp,Instr.sliceAt,Go.underlying,hu,Instr.slice,Instr.sliceBounds,hx,hy,hz,sl,zbI (P:=P) (w:=w) ha hc,zbI (P:=P) (w:=w) ha (Nat.le_refl _),ts w,Addr.add]
theorem HS.recap{k b c N sz:Nat}{cs rs:LV}(H:HS B S w L)(hk:lkR L k=some (.osl (sl b 0 N c) N sz cs rs T')):HS B S w (stR L k (.osl (sl b 0 N N) N sz cs rs T')):=by
 rcases H.own k _ hk with⟨h,_⟩|⟨b',c',fz,hv',h1,h2,h3,h4,h5⟩
 ·cases h
 ·injection hv' with e1 e2 e3
  injection e1 with e1
  injection e1 with e1 _ _
  subst e1;subst e3
  exact H.upd hk (Nat.le_refl _) rfl rfl rfl (fun _ _ _=>rfl) (.inr ⟨b,N,fz,rfl,Nat.le_refl _,h2,Nat.le_trans (Nat.mul_le_mul_right sz h1) h3,h4,h5⟩) fun b' hb'=>.inl hb'
theorem capOf{k b c N sz:Nat}{cs rs:LV}(H:HS B S w L)(hk:lkR L k=some (.osl (sl b 0 N c) N sz cs rs T')):N≤c:=by
 rcases H.own k _ hk with⟨h,_⟩|⟨b',c',fz,hv',h1,_⟩
 ·cases h
 ·injection hv' with e1 e2 e3
  subst e3;exact h1
theorem lay_u8s(xs ys:Bs)(p n:Nat)(rs:LV)(hn:n=min ys.length (xs.length-p))(hp:p≤xs.length):lay (u8s xs++rs) p (u8s (ys.take n))=u8s (putB xs p ys)++rs:=by
 apply List.ext_getElem?
 intro j
 rw[zdN]
 have h1:(u8s (ys.take n)).length=n:=by simp[u8s];omega
 have h2:(u8s (putB xs p ys)).length=xs.length:=by rw[u8s,List.length_map,zwN _ _ _ hp]
 have h3:(u8s xs).length=xs.length:=by simp[u8s]
 have h4:(xs.take p).length=p:=by simp;omega
 by_cases hj:p≤j∧j<p+n
 ·rw[if_pos (by rw[h1,List.length_append,h3];omega),List.getElem?_append_left (by rw[h2];omega)]
  simp only[u8s,putB,List.map_append]
  rw[List.getElem?_append_right (by simp;omega),List.getElem?_append_left (by simp;omega)]
  simp only[List.length_map,h4,List.getElem?_map,List.getElem?_take]
  rw[if_pos (by omega),if_pos (by omega)]
 ·rw[if_neg (by rw[h1];omega)]
  by_cases hx:j<xs.length
  ·rw[List.getElem?_append_left (by rw[h3];omega),List.getElem?_append_left (by rw[h2];omega)]
   simp only[u8s,putB,List.map_append]
   by_cases hq:j<p
   ·rw[List.getElem?_append_left (by simp;omega)]
    simp only[List.getElem?_map,List.getElem?_take,if_pos hq]
   ·rw[List.getElem?_append_right (by simp;omega),List.getElem?_append_right (by simp;omega)]
    simp only[List.length_map,h4,List.getElem?_map,List.getElem?_drop,List.length_take]
    congr 2;omega
  ·rw[List.getElem?_append_right (by rw[h3];omega),List.getElem?_append_right (by rw[h2];omega),h2,h3]
theorem yvE{k p:Nat}{xs ys:Bs}{S2:Mem}{cs rs:LV}{v2:Value}(hu:P.underlying dT=some (.slice E))(ts:TSz P E 1)(H:HS B S w L)(hk:lkR L k=some (.osl v xs.length 1 cs rs T'))(h0:RL S cs xs)
  (hx:e x=subN v 1 p xs.length) (hp:p≤xs.length) (h2:RdS S2 v2 ys) (hs2:Sub S2 w) (hy:e y=v2):
  ∃w' r,(execOp e ⟨dst,.call ⟨.builtin .copy,#[x,y],#[dT,sT]⟩,ty,pos,aft,g⟩).run P w = .ok (.value r) w'∧r = .int .i64 ((min ys.length (xs.length-p):Nat):Int)∧∃cs',HS B S w' (stR L k (.osl v (putB xs p ys).length 1 cs' rs T'))∧RL S cs' (putB xs p ys):=by
 obtain⟨ds,k1,k2⟩:=h2
 obtain rfl:=k2.u8
 obtain rfl:=h0.u8
 have k1w:=k1.w hs2
 have hsz:Rp.sz UInt8=1:=rfl
 rw[hsz]at k1w
 generalize hn:min ys.length (xs.length-p)=n
 have hlen:(u8s (ys.take n)).length=n:=by simp[u8s];omega
 have hone:∀u∈u8s (ys.take n),u.oneCell'=true:=(RL.of_u8s (S:=S) (ys.take n)).one
 have hcells:(Builtin.firstCells 1 n v2).run P w = .ok (u8s (ys.take n)).toArray w∧(Builtin.lenOf v2).run P w = .ok ys.length w:=by
  rcases k1w with⟨h,h0,_⟩|⟨b,o,c,dd,T2,fz,h,hc,hh,hl,hpc⟩
  ·obtain rfl:ys=[]:=List.length_eq_zero_iff.1 h0
   obtain rfl:n=0:=by rw[←hn];simp
   obtain⟨a,h⟩:=h
   rw[h];cases a<;>constructor<;>simp[Builtin.firstCells,Builtin.lenOf,u8s,loadCells,loadCellsFrom]
  ·have:=run_loadCells_list (P:=P) w ⟨b,o,none⟩ (u8s (ys.take n)) (fun j v hj=>by
    have hjn:j<n:=by have:=(List.getElem?_eq_some_iff.1 hj).1;rwa[hlen]at this
    rw[zcJ,zeC hh,←hj]
    have h3:(u8s ys)[j]? = (u8s (ys.take n))[j]?:=by simp only[u8s,List.getElem?_map,List.getElem?_take,if_pos hjn]
    rw[←h3,←hpc,zaK,List.getElem?_take,if_pos (by omega),List.getElem?_drop])
   rw[hlen]at this
   rw[h];constructor
   ·simpa[Builtin.firstCells,sl]using this
   ·simp[Builtin.lenOf]
 have hmin:Nat.min ys.length (xs.length-p)=n:=hn
 rcases H.own k _ hk with⟨h,hN,hcs,hrs⟩|⟨b,c,fz,hv,hc1,hc2,hc3,hc4,hc5⟩
 ·obtain rfl:xs=[]:=List.length_eq_zero_iff.1 hN
  obtain rfl:p=0:=by simpa using hp
  obtain rfl:n=0:=by rw[←hn];simp
  refine⟨w,_,?_,rfl,u8s [],?_,?_⟩
  ·subst h
   simp[execOp,resolve,invoke,builtin,hx,hy,subN,Builtin.copy_,Go.underlying,hu,hcells.1,hcells.2,ts w,goInt]
  ·have:putB [] 0 ys=[]:=by simp[putB]
   rw[this]
   exact H.upd hk (Nat.le_refl _) rfl rfl rfl (fun _ _ _=>rfl) (.inl ⟨h,rfl,hcs,hrs⟩) fun b' hb'=>.inl hb'
  ·have:putB [] 0 ys=[]:=by simp[putB]
   rw[this];rfl
 ·obtain⟨w',he,hb,hs,h4,h5,h6,h7⟩:=zfR (P:=P) (o:=p) (u8s (ys.take n)) 0 w (u8s xs++rs) hone hc4 hc5 (by rw[hlen,List.length_append];simp[u8s];omega)
  refine⟨w',_,?_,rfl,u8s (putB xs p ys),?_,RL.of_u8s _⟩
  ·subst hv
   by_cases hcp:c=p
   ·have h0':n=0:=by omega
    subst h0'
    have hw:w=w':=by simpa[storeCells,u8s]using he
    subst hw
    simp[execOp,resolve,invoke,builtin,hx,hy,subN,hcp,Builtin.copy_,Go.underlying,hu,hcells.1,hcells.2,ts w,goInt,hmin,storeCells,u8s]
   ·simp[execOp,resolve,invoke,builtin,hx,hy,subN,hcp,Builtin.copy_,Go.underlying,hu,hcells.1,hcells.2,ts w,goInt,hmin,zcJ,he]
  ·rw[Nat.add_zero,lay_u8s xs ys p n rs hn.symm hp]at hb
   refine H.upd hk (by omega) h4 h5 h6 (fun i _ hne=>h7 i fun e=>hne (by rw[e,hv];rfl)) (.inr ⟨b,c,fz,by rw[zwN _ _ _ hp];exact hv,by rw[zwN _ _ _ hp];exact hc1,by simp[u8s],?_,hb,?_⟩) fun b' hb'=>.inl hb'
   ·simp only[u8s,List.length_append,List.length_map,zwN _ _ _ hp]at hc3 ⊢;exact hc3
   ·simp only[u8s,List.length_append,List.length_map,zwN _ _ _ hp]at hc5 ⊢;exact hc5
theorem r_min{a b r:Int}{ats:Array TypeId}(hx:e x = .int .i64 a)(hy:e y = .int .i64 b)(h:(bif decide (a≤b)then a else b)=r):
  (execOp e ⟨dst,.call ⟨.builtin .min,#[x,y],ats⟩,ty,pos,aft,g⟩).run P w = .ok (.value (.int .i64 r)) w:=by
 subst h
 by_cases hc:a≤b
 ·have h2:¬b<a:=by omega
  simp[execOp,resolve,invoke,builtin,hx,hy,Builtin.min_,Builtin.min2,hc,h2]
 ·have h2:b<a:=by omega
  simp[execOp,resolve,invoke,builtin,hx,hy,Builtin.min_,Builtin.min2,hc,h2]
theorem HS.subAll{k N sz:Nat}{cs rs:LV}(H:HS B S w L)(hk:lkR L k=some (.osl v N sz cs rs T')):subN v sz 0 N=v:=by
 rcases H.own k _ hk with⟨h,hN,_⟩|⟨b,c,fz,hv,_⟩
 ·subst hN;rw[h];rfl
 ·rw[hv];simp only[subN,sl,Nat.zero_mul,Nat.sub_zero]
  split<;>simp[Addr.add]
end
section
attribute [local irreducible] wpList wpT Code.wp Calls Code.rounds
variable {S:Mem}{w:World}
theorem to5:TOne Tryz.prog 5:=⟨fun _=>by kernel_rfl,fun _=>by kernel_rfl⟩
theorem is97:IsFn Tryz.prog 97:=isFn Tryz.func97
theorem is98:IsFn Tryz.prog 98:=isFn Tryz.func98
theorem is126:IsFn Tryz.prog 126:=isFn Tryz.func126
theorem is163:IsFn Tryz.prog 163:=isFn Tryz.func163
def zqV(x0:UInt64)(x1:UInt64):Option (UInt64×UInt64):=
  some (((i64 ((((i64 ((((i64 ((((i64 (shrI .u64 ((x0).toNat:Int) 32))).toNat:Int)*(((i64 (shrI .u64 ((x1).toNat:Int) 32))).toNat:Int)))).toNat:Int)+(((i64 (shrI .u64 (((i64 ((((i64 ((((i64 (shrI .u64 ((x0).toNat:Int) 32))).toNat:Int)*(((x1&&&(4294967295:UInt64))).toNat:Int)))).toNat:Int)+(((i64 (shrI .u64 (((i64 ((((x0&&&(4294967295:UInt64))).toNat:Int)*(((x1&&&(4294967295:UInt64))).toNat:Int)))).toNat:Int) 32))).toNat:Int)))).toNat:Int) 32))).toNat:Int)))).toNat:Int)+(((i64 (shrI .u64 (((i64 (((((i64 ((((i64 ((((i64 (shrI .u64 ((x0).toNat:Int) 32))).toNat:Int)*(((x1&&&(4294967295:UInt64))).toNat:Int)))).toNat:Int)+(((i64 (shrI .u64 (((i64 ((((x0&&&(4294967295:UInt64))).toNat:Int)*(((x1&&&(4294967295:UInt64))).toNat:Int)))).toNat:Int) 32))).toNat:Int)))&&&(4294967295:UInt64))).toNat:Int)+(((i64 ((((x0&&&(4294967295:UInt64))).toNat:Int)*(((i64 (shrI .u64 ((x1).toNat:Int) 32))).toNat:Int)))).toNat:Int)))).toNat:Int) 32))).toNat:Int))),(i64 (((x0).toNat:Int)*((x1).toNat:Int)))))
theorem zxL (hS : Sub S w) {x0 : UInt64} {x1 : UInt64} {r : UInt64 × UInt64} (hF : zqV x0 x1 = some r) :
    Calls Tryz.prog 163 #[.int .u64 (((x0).toNat:Int)),.int .u64 (((x1).toNat:Int))] w fun e w'=>e = .returned (.tuple #[.int .u64 (((r.1).toNat:Int)),.int .u64 (((r.2).toNat:Int))])∧Ext w w':=by
 refine enter (n:=51) Tryz.func163 rfl rfl rfl ?_
 have H:=HS.start hS
 refine sr fun K1 hK1=>asI rfl<|asI rfl<|xk hK1<|sr fun K2 hK2=>mvI rfl<|zaC (zbH (bo:=.and) (by simp) rfl rfl (zqA _ (4294967295:UInt64)))<|asI rfl<|xk hK2 ?_
 refine sr fun K3 hK3=>mvI rfl<|zaC (zqO rfl rfl (by decide) (zoF _ _))<|asI rfl<|xk hK3<|sr fun K4 hK4=>mvI rfl<|zaC (zbH (bo:=.and) (by simp) rfl rfl (zqA _ (4294967295:UInt64)))<|asI rfl ?_
 refine xk hK4<|sr fun K5 hK5=>mvI rfl<|zaC (zqO rfl rfl (by decide) (zoF _ _))<|asI rfl<|xk hK5<|sr fun K6 hK6=>mvI rfl<|mvI rfl ?_
 refine zaC (ydJ rfl rfl (zbR _))<|asI rfl<|xk hK6<|sr fun K7 hK7=>mvI rfl<|mvI rfl<|zaC (ydJ rfl rfl (zbR _))<|mvI rfl<|zaC (zqO rfl rfl (by decide) (zoF _ _)) ?_
 refine zaC (ziZ rfl rfl (zbR _))<|asI rfl<|xk hK7<|sr fun K8 hK8=>mvI rfl<|zaC (zbH (bo:=.and) (by simp) rfl rfl (zqA _ (4294967295:UInt64)))<|asI rfl<|xk hK8<|sr fun K9 hK9=>?_
 refine mvI rfl<|zaC (zqO rfl rfl (by decide) (zoF _ _))<|asI rfl<|xk hK9<|sr fun K10 hK10=>mvI rfl<|mvI rfl<|mvI rfl<|zaC (ydJ rfl rfl (zbR _)) ?_
 refine zaC (ziZ rfl rfl (zbR _))<|asI rfl<|xk hK10<|sr fun K11 hK11=>mvI rfl<|mvI rfl<|zaC (ydJ rfl rfl (zbR _))<|mvI rfl<|zaC (ziZ rfl rfl (zbR _)) ?_
 refine mvI rfl<|zaC (zqO rfl rfl (by decide) (zoF _ _))<|zaC (ziZ rfl rfl (zbR _))<|asI rfl<|xk hK11<|sr fun K12 hK12=>mvI rfl<|mvI rfl<|zaC (ydJ rfl rfl (zbR _)) ?_
 refine asI rfl<|xk hK12<|wp_ret ?_
 obtain rfl:=osi hF
 refine e_2 rfl (ziX rfl) (ziX rfl) ?_
 exact⟨rfl,H.toExt⟩
def zoO(x0:UInt64)(x1:UInt64):Option (UInt64×UInt64):=
  Option.bind (zqV x0 x1) fun y1=>some ((y1.1,y1.2))
theorem ycL (hS : Sub S w) {x0 : UInt64} {x1 : UInt64} {r : UInt64 × UInt64} (hF : zoO x0 x1 = some r) :
    Calls Tryz.prog 126 #[.int .u64 x0.I,.int .u64 x1.I] w fun e w'=>e = .returned (.tuple #[.int .u64 r.1.I,.int .u64 r.2.I])∧Ext w w':=by
 refine enter (n:=30) Tryz.func126 rfl rfl rfl ?_
 have H:=HS.start hS
 refine sr fun K1 hK1=>asI rfl<|asI rfl<|xk hK1<|wp_seq_k fun K2 hK2=>ymM (t:=false) rfl rfl<|wp_skip<|xn hK2<|sr fun K3 hK3=>?_
 refine mvI rfl<|mvI rfl<|bn hF fun y1 e1 hF=>zeX is163 rfl<|(zxL H.sub e1).mono<|H.xe fun w1 H=>mvU rfl<|zaC (ztR (v:=.int .u64 y1.1.I) rfl rfl)<|zaC (ztR (v:=.int .u64 y1.2.I) rfl rfl)<|asI rfl ?_
 refine asI rfl<|xk hK3<|sr fun K4 hK4=>mvI rfl<|mvI rfl<|asI rfl<|asI rfl<|xk hK4<|wp_ret ?_
 obtain rfl:=osi hF
 refine e_2 rfl (ziX rfl) (ziX rfl) ?_
 exact⟨rfl,H.toExt⟩
noncomputable def zhU(y1:UInt64×UInt64)(t1:Int)(s1:Int×Bs):Option ((Int×Bs)⊕(Bs)):=
  bif decide (s1.1<(w64 ((y1.2).toNat:Int)))then(Option.bind (subL s1.2 s1.1) fun _y4=>Option.bind (subH s1.2 (bif decide (s1.1≤t1)then s1.1 else t1)) fun y5=>some (.inl (((w64 (s1.1+((min (y5).length ((s1.2).length-(s1.1:Int).toNat):Nat):Int))),(putB s1.2 ((s1.1:Int).toNat) y5)))))else(some (.inr (s1.2)))
noncomputable def zjA(x0:Bs)(x1:Int):Option (Bs):=
  bif(x1==0)then(some (([]:Bs)))else(bif decide (x1<0)then(none)else(Option.bind (zoO (i64 ((x0).length:Int)) (i64 x1)) fun y1=>bif(bif decide ((0:Int)<((y1.1).toNat:Int))then true else decide ((9223372036854775807:Int)<((y1.2).toNat:Int)))then(none)else(bif(((x0).length:Int)==0)then(some (([]:Bs)))else(Option.bind (bif decide ((8192:Int)<(w64 ((y1.2).toNat:Int)))then(Option.bind (chk (decide (((x0).length:Int)≠0))) fun _y2=>bif((w64 ((w64 (Int.tdiv 8192 ((x0).length:Int)))*((x0).length:Int)))==0)then(some (((x0).length:Int)))else(some ((w64 ((w64 (Int.tdiv 8192 ((x0).length:Int)))*((x0).length:Int))))))else(some ((w64 ((y1.2).toNat:Int))))) (fun t1=>Option.bind (chk (decide (0≤(w64 ((y1.2).toNat:Int)))&&decide ((w64 ((y1.2).toNat:Int))≤(LIM:Int)))) fun _y3=>anyJ ((w64 ((y1.2).toNat:Int)):Int).toNat fun jk1=>Option.bind (Option.bind (iter (zhU y1 t1) ((((min (x0).length ((jk1).length-0):Nat):Int),(putB jk1 0 x0)))) (fun e=>some (e))) (fun t2=>some (t2)))))))
theorem zuU (H : HS ⟨S, zbJ [], w⟩ S w []) {v0_ : Value} {x0 : Bs} (h0_ : RdS S v0_ x0) {x1 : Int} {r : Bs} (hF : zjA x0 x1 = some r) :
    Calls Tryz.prog 98 #[v0_,.int .i64 (x1)] w fun e w'=>∃(S2:Mem) (pv4:Value) (pcs4 prs4:LV),e = .returned (pv4)∧HS ⟨S,zbJ [],w⟩ S2 w' [.osl (pv4) (r).length 1 pcs4 prs4 5]∧RL S2 pcs4 r:=by
 refine enter (n:=77) Tryz.func98 rfl rfl rfl<|sr fun K1 hK1=>asN rfl<|xk hK1<|wp_seq_k fun K2 hK2=>sr fun K3 hK3=>mvI rfl<|zaC (ykM rfl rfl)<|xk hK3 ?_
 refine zfJ hF rfl (fun hF hc1=>?_) fun hF hc1=>?_
 ·refine sr fun K4 hK4=>?_
  have g1:RL S ([]:LV) ([]:Bs):=RL.nil
  refine zxE (zlW (N:=0) (vals:=[]) (l:=([]:LV)) znF H rfl rfl rfl g1.len) fun w1 v1 H=>p_as (v:=v1) rfl<|xk hK4<|wp_ret<|yvF ?_
  obtain rfl:=osi hF
  refine e_1 rfl (ziX rfl) ?_
  exact⟨_,_,_,_,rfl,H,g1⟩
 ·refine wp_skip ?_
  refine xn hK2<|wp_seq_k fun K5 hK5=>sr fun K6 hK6=>mvI rfl<|zaC (zfP rfl rfl)<|xk hK6 ?_
  refine zfJ hF rfl (fun hF hc2=>?_) fun hF hc2=>?_
  ·exact nomatch hF
  ·refine wp_skip ?_
   refine xn hK5<|sr fun K7 hK7=>p_mv (v:=v0_) rfl<|zaC (r_lenR' u100 rfl h0_ H.sub)<|zaC (zhY u3 u139 rfl (zbR _))<|mvI rfl<|zaC (zhY u3 u139 rfl (zbR _))<|bn hF fun y1 e1 hF=>zeX is126 rfl ?_
   refine(ycL H.sub e1).mono<|H.xe fun w2 H=>mvU rfl<|zaC (ztR (v:=.int .u64 (((y1.1).toNat:Int))) rfl rfl)<|zaC (ztR (v:=.int .u64 (((y1.2).toNat:Int))) rfl rfl)<|asI rfl<|asI rfl<|xk hK7<|wp_seq_k fun K8 hK8=>sr fun K9 hK9=>?_
   refine mvI rfl<|zaC (yaE rfl rfl)<|mvB rfl<|nameL fun m1 k1=>gs_at 3 fun K10 hK10 R2 hR2=>?_
   have J1:∀(m2:FM),Kp [30,31,32] m2 m1→look m2 32 = .bool ((bif decide ((0:Int)<((y1.1).toNat:Int))then true else decide ((9223372036854775807:Int)<((y1.2).toNat:Int))))→K10 m2 w2:=by
    intro m2 k2 q1
    have q2:look m2 0=v0_:=(k2 0 rfl).trans (k1 0)
    have q3:look m2 6 = .int .u64 (((y1.2).toNat:Int)):=(k2 6 rfl).trans (k1 6)
    refine hK10 _ _ ?_;clear hK10 hR2
    refine xk hK9 ?_
    refine ygG q1 (fun hc3=>?_) (fun hc3=>?_)
    ·replace hF:=yyS hF hc3
     exact nomatch hF
    ·replace hF:=yyW hF hc3
     refine wp_skip<|xn hK8<|sr fun K11 hK11=>p_mv q3<|zaC (zhY (r:=(w64 ((y1.2).toNat:Int))) u139 u3 rfl (rfl))<|asI rfl<|xk hK11<|wp_seq_k fun K12 hK12=>sr fun K13 hK13=>?_
     refine p_mv (v:=v0_) q2<|zaC (r_lenR' u100 rfl h0_ H.sub)<|zaC (ykM rfl rfl)<|xk hK13 ?_
     refine zfJ hF rfl (fun hF hc4=>?_) fun hF hc4=>?_
     ·refine sr fun K14 hK14=>?_
      have g2:RL S ([]:LV) ([]:Bs):=RL.nil
      refine zxE (zlW (N:=0) (vals:=[]) (l:=([]:LV)) znF H rfl rfl rfl g2.len) fun w3 v2 H=>p_as (v:=v2) rfl<|xk hK14<|wp_ret<|yvF ?_
      obtain rfl:=osi hF
      refine e_1 rfl (ziX rfl) ?_
      exact⟨_,_,_,_,rfl,H,g2⟩
     ·refine wp_skip ?_
      refine xn hK12<|sr fun K15 hK15=>mvI rfl<|asI rfl<|xk hK15<|wp_seq_k fun K16 hK16=>zbT fun m3 k3=>bn hF fun t1 hE1 hF1=>?_
      have J3:∀(m4:FM) (w4:World),Kp (8::rg 41 12 []) m4 m3→look m4 8 = .int .i64 (t1)→HS ⟨S,zbJ [],w⟩ S w4 []→K16 (fr 77 m4) w4:=by
       clear H;intro m4 w4 k4 q4 H
       have q5:=(k4 0 rfl).trans ((k3 0).trans q2)
       have q6:look m4 7 = .int .i64 ((w64 ((y1.2).toNat:Int))):=(k4 7 rfl).trans (k3 7)
       refine hK16 _ _<|sr fun K20 hK20=>p_mv q6<|bn hF1 fun y3 e3 hF1=>zxE (a_mnz (ps:=#[3]) (t:=100) (a:=(w64 ((y1.2).toNat:Int))) Tryz.func127 (by kernel_rfl) (by kernel_rfl) (by kernel_rfl) (by kernel_rfl) u100 rfl H rfl (of_decide_eq_true (zaQ (zdQ e3))) (of_decide_eq_true (zbC (zdQ e3)))) ?_;clear H;rintro w5 _ ⟨b1,c1,jk1,jr1,rfl,hjk1,H⟩
       replace hF1:=yuT hF1 jk1 hjk1
       have g3:RL S (u8s jk1) jk1:=RL.of_u8s _
       refine p_mv q6<|p_mv q6<|zaC (xaE (N:=(jk1).length) u100 tsz5 rfl rfl rfl (by have h0_:=of_decide_eq_true (zaQ (zdQ e3));omega) (capOf H (k:=0) rfl)) ?_
       have H1:=H.recap (k:=0) rfl;clear H;have H:=H1;clear H1
       replace H:=hsn H
       refine p_as (v:=sl b1 0 (jk1).length (jk1).length) rfl<|xk hK20<|sr fun K21 hK21=>p_mv (v:=sl b1 0 (jk1).length (jk1).length) rfl<|p_mv (v:=v0_) q5<|zxE (yvE (k:=0) (p:=0) (xs:=jk1) (ys:=x0) u100 tsz5 H rfl g3 (Eq.trans rfl (HS.subAll H (k:=0) rfl).symm) (Nat.zero_le _) h0_ H.sub rfl) ?_;clear H;rintro w6 _ ⟨rfl,cs3,H,g4⟩
       replace H:=hsn H
       refine asI rfl<|xk hK21<|wp_seq_k fun K22 hK22=>zbT fun m5 k5=>bn hF1 fun t2 hE2 hF2=>?_
       have J2:∀(cs6 rs2:LV) (m8:FM) (w10:World),Kp (10::11::rg 61 15 []) m8 m5→HS ⟨S,zbJ [],w⟩ S w10 [.osl (sl b1 0 (jk1).length (jk1).length) (t2).length 1 cs6 rs2 5]→RL S cs6 t2→K22 (fr 77 m8) w10:=by
        clear H;intro cs6 rs2 m8 w10 k9 H g9
        have q11:look m8 9=sl b1 0 (jk1).length (jk1).length:=(k9 9 rfl).trans (k5 9)
        refine hK22 _ _<|sr fun K26 hK26=>p_mv (v:=sl b1 0 (jk1).length (jk1).length) q11<|p_as (v:=sl b1 0 (jk1).length (jk1).length) rfl<|xk hK26<|wp_ret ?_
        obtain rfl:=osi hF2
        refine e_1 rfl (ziX rfl) ?_
        exact⟨_,_,_,_,rfl,H,g9⟩
       refine wp_block<|zbT fun m6 k6=>bn hE2 fun out1 hL1 hE3=>zjM (10::11::rg 61 15 []) (fun(s1:Int×Bs) (m7:FM) (w7:World)=>∃(cs4 rs1:LV),look m7 10 = .int .i64 (s1.1)∧HS ⟨S,zbJ [],w⟩ S w7 [.osl (sl b1 0 (jk1).length (jk1).length) (s1.2).length 1 cs4 rs1 5]∧RL S cs4 s1.2) hL1 ⟨_,_,((k6 10).trans (k5 10)),H,g4⟩ ?_
       clear H;intro k8 s1 m7 w7 k7 hI1 o3 hb1 hh1;obtain⟨cs4,rs1,q7,H,g5⟩:=hI1
       have q8:=(k7 7 rfl).trans ((k6 7).trans ((k5 7).trans q6))
       have q9:=(k7 8 rfl).trans ((k6 8).trans ((k5 8).trans q4))
       have q10:look m7 9=sl b1 0 (jk1).length (jk1).length:=(k7 9 rfl).trans ((k6 9).trans (k5 9))
       refine wp_seq_k fun K23 hK23=>sr fun K24 hK24=>p_mv q7<|p_mv q8<|zaC (zfP rfl rfl)<|xk hK24 ?_
       refine zfJ hb1 rfl (fun hb1 hc7=>?_) fun hb1 hc7=>?_
       ·refine wp_skip ?_
        refine xn hK23<|wp_block<|sr fun K25 hK25=>p_mv q7<|p_mv q9<|zaC (r_min (r:=(bif decide (s1.1≤t1)then s1.1 else t1)) rfl rfl rfl)<|asI rfl<|xk hK25<|bn hb1 fun y4 e4 hb1=>?_
        refine bn hb1 fun y5 e5 hb1=>wrS H 7 [] fun vs1 H=>?_
        refine t_float (fun w=>zaE q7) rfl rfl<|tp (zaE (v:=sl b1 0 (jk1).length (jk1).length) q10)<|tp (zaE q7)<|t_v (fun w hx=>ywL (p:=(s1.1:Int).toNat) u100 tsz5 rfl rfl (zlY e4).1 (RdS.ofOwn (H.ext hx) (k:=0) rfl g5) (zlY e4).2.1)<|tp (zaE (v:=sl b1 0 (jk1).length (jk1).length) q10)<|tp (zaE (v:=.int .i64 ((bif decide (s1.1≤t1)then s1.1 else t1))) rfl) ?_
        refine t_v (fun w hx=>ypP (h:=((bif decide (s1.1≤t1)then s1.1 else t1):Int).toNat) u100 tsz5 rfl rfl (ziY e5).1 (RdS.ofOwn (H.ext hx) (k:=0) rfl g5) (ziY e5).2.1)<|zmR<|H.tn fun w8 H=>?_
        refine zxE (yvE (k:=0) (p:=(s1.1:Int).toNat) (xs:=s1.2) (ys:=y5) u100 tsz5 H rfl g5 rfl (zlY e4).2.1 (RdS.subH (RdS.ofOwn H (k:=0) rfl g5) e5) (yeY _) rfl) ?_;clear H;rintro w9 _ ⟨rfl,cs5,H,g8⟩
        replace H:=hsn H
        refine zaC (zdS rfl rfl)<|asI rfl<|wpList_nil<|zdC<|zdM<|zaJ ?_
        obtain rfl:=osi hb1
        exact⟨((w64 (s1.1+((min (y5).length ((s1.2).length-(s1.1:Int).toNat):Nat):Int))),(putB s1.2 ((s1.1:Int).toNat) y5)),_,rfl,(kS k7 rfl kcx),⟨_,_,rfl,H,g8⟩,hh1⟩
       ·refine wp_exit ?_
        refine zaW<|zaW<|ziQ<|zaJ ?_
        obtain rfl:=osi hb1
        obtain rfl:=osi hh1
        obtain rfl:=osi hE3
        exact J2 _ _ _ _ (kS k7 rfl (kN k6 kcx)) H g5
      refine sr fun K17 hK17=>p_mv (k3 8)<|zaC (yaE rfl rfl)<|xk hK17 ?_
      refine zfJ hE1 rfl (fun hE1 hc5=>?_) fun hE1 hc5=>?_
      ·refine sr fun K18 hK18=>?_
       refine p_mv (v:=v0_) ((k3 0).trans q2)<|zaC (r_lenR' u100 rfl h0_ H.sub)<|bn hE1 fun y2 e2 hE1=>zaC (r_quo (r:=w64 (Int.tdiv 8192 ((x0).length:Int))) rfl rfl (of_decide_eq_true (zdQ e2)) rfl)<|p_mv (v:=v0_) ((k3 0).trans q2)<|zaC (r_lenR' u100 rfl h0_ H.sub)<|zaC (yeA rfl rfl)<|asI rfl<|xk hK18 ?_
       refine sr fun K19 hK19=>mvI rfl<|zaC (ykM rfl rfl)<|xk hK19 ?_
       refine zfJ hE1 rfl (fun hE1 hc6=>?_) fun hE1 hc6=>?_
       ·refine wp_region_lit ?_
        refine p_mv (v:=v0_) ((k3 0).trans q2)<|zaC (r_lenR' u100 rfl h0_ H.sub)<|asI rfl<|wpList_nil<|zaJ ?_
        obtain rfl:=osi hE1
        exact J3 _ _ kcx rfl H
       ·refine wp_skip ?_
        refine zaJ ?_
        obtain rfl:=osi hE1
        exact J3 _ _ kcx rfl H
      ·refine wp_skip ?_
       refine zaJ ?_
       obtain rfl:=osi hE1
       exact J3 _ _ kcx (k3 8) H
   refine p_gs (j:=2) (ziU rfl rfl (k1 29)) (fun hb2=>?_) (fun hb2=>?_)
   ·refine zwT (ziU rfl rfl (k1 29)) hb2 ?_
    rw[zkA]
    refine zwT (ziU rfl rfl (k1 29)) hb2 ?_
    rw[zkA]
    refine zaC (ymE (v:=.bool (true)) (k1 29) hb2 rfl)<|hR2 _ _ ?_
    exact J1 _ kcx (show(.bool (true):Value) = .bool ((bif decide ((0:Int)<((y1.1).toNat:Int))then true else decide ((9223372036854775807:Int)<((y1.2).toNat:Int))))from congrArg Value.bool (by simp only[hb2,cond_true]))
   ·refine zwL (ziU rfl rfl (k1 29)) hb2 ?_
    refine p_mv (k1 6)<|zwL (ziU rfl rfl (k1 29)) hb2<|zaC (yaE rfl rfl)<|zaC (ymW (v:=.bool (decide ((9223372036854775807:Int)<((y1.2).toNat:Int)))) (k1 29) hb2 rfl)<|hR2 _ _ ?_
    exact J1 _ kcx (show(.bool (decide ((9223372036854775807:Int)<((y1.2).toNat:Int))):Value) = .bool ((bif decide ((0:Int)<((y1.1).toNat:Int))then true else decide ((9223372036854775807:Int)<((y1.2).toNat:Int))))from congrArg Value.bool (by simp only[hb2,cond_false]))
noncomputable def zsB(t1:Bs)(s1:Int×Bs×Bs):Option ((Int×Bs×Bs)⊕(Bs×Bs)):=
  bif decide (s1.1<((t1).length:Int))then(Option.bind (idx s1.2.2 s1.1) fun y4=>Option.bind (idx t1 s1.1) fun y5=>Option.bind (idx s1.2.2 s1.1) fun _y6=>Option.bind (setL s1.2.2 (s1.1:Int) (y4^^^y5)) fun y7=>Option.bind (idx s1.2.1 s1.1) fun y8=>Option.bind (idx t1 s1.1) fun y9=>Option.bind (idx s1.2.1 s1.1) fun _y10=>Option.bind (setL s1.2.1 (s1.1:Int) (y8^^^y9)) fun y11=>some (.inl (((w64 (s1.1+1)),y11,y7))))else(some (.inr ((s1.2.1,s1.2.2))))
noncomputable def zxT(x0:Bs)(x1:Bs):Option (Bs):=
  Option.bind (bif decide ((64:Int)<((x0).length:Int))then(Option.bind (zlP x0) fun y1=>some (y1))else(some (x0))) (fun t1=>Option.bind (zjA ([54]:Bs) 64) fun y2=>Option.bind (zjA ([92]:Bs) 64) fun y3=>Option.bind (Option.bind (iter (zsB t1) ((0,y3,y2))) (fun e=>some (e))) (fun t2=>Option.bind (app t2.2 x1) fun y12=>Option.bind (zlP y12) fun y13=>Option.bind (app t2.1 y13) fun y14=>Option.bind (zlP y14) fun y15=>some (y15)))
theorem yrM (hS : Sub S w) {x0 : Bs} {x1 : Bs} {r : Bs} (hF : zxT x0 x1 = some r) :
    Calls Tryz.prog 53 #[str (x0),str (x1)] w fun e w'=>e = .returned (str (r))∧Ext w w':=by
 refine enter (n:=50) Tryz.func53 rfl rfl rfl ?_
 have H:=HS.start hS
 refine sr fun K1 hK1=>asT rfl<|xk hK1<|wp_seq_k fun K2 hK2=>zbT fun m1 k1=>bn hF fun t1 hE1 hF1=>?_
 have J2:∀(m2:FM) (w2:World),Kp [0,8,9,10,11,12] m2 m1→look m2 0=str (t1)→HS ⟨S,[],w⟩ S w2 []→K2 (fr 50 m2) w2:=by
  clear H;intro m2 w2 k2 q1 H
  have q2:look m2 1=str (x1):=(k2 1 rfl).trans (k1 1)
  refine hK2 _ _<|sr fun K4 hK4=>zxX (zfS (N:=1) (xs:=([54]:Bs)) (RL.cons (ylO (x:=(54:UInt8)) rfl) RL.nil) znF H rfl rfl rfl) fun w3 v1 cs1 H g1=>?_
  obtain⟨S1,hle1,g2,H1⟩:=H.fixX (k:=0) rfl g1;clear H;have H:=H1;clear H1
  replace H:=hsn H
  refine bn hF1 fun y2 e2 hF1=>zeX is98 rfl<|(zuU (H.hand [] rfl) g2 e2).mono ?_;rintro _ w4 ⟨S2,pv1,pcs1,prs1,rfl,H2,pg1⟩
  obtain⟨H1,hle2⟩:=H.frame [] [] rfl H2;clear H H2;have H:=H1;clear H1
  replace g2:=g2.mono hle2
  refine zxX (zfS (N:=1) (xs:=([92]:Bs)) (RL.cons (ylO (x:=(92:UInt8)) rfl) RL.nil) znF H rfl rfl rfl) fun w5 v2 cs2 H g3=>?_
  obtain⟨S3,hle3,g4,H1⟩:=H.fixX (k:=0) rfl g3;clear H;have H:=H1;clear H1
  replace pg1:=pg1.mono hle3
  refine bn hF1 fun y3 e3 hF1=>zeX is98 rfl<|(zuU (H.hand [] rfl) g4 e3).mono ?_;rintro _ w6 ⟨S4,pv2,pcs2,prs2,rfl,H2,pg2⟩
  obtain⟨H1,hle4⟩:=H.frame [] [0] rfl H2;clear H H2;have H:=H1;clear H1
  replace pg1:=pg1.mono hle4
  replace g4:=g4.mono hle4
  refine p_as (v:=pv1) rfl<|p_as (v:=pv2) rfl<|xk hK4<|wp_seq_k fun K5 hK5=>zbT fun m3 k3=>bn hF1 fun t2 hE2 hF2=>?_
  have J1:∀(cs9 rs3:LV) (cs10 rs4:LV) (m6:FM) (w12:World),Kp (7::rg 17 24 []) m6 m3→HS ⟨S,[],w⟩ S4 w12 [.osl (pv2) (t2.1).length 1 cs9 rs3 5,.osl (pv1) (t2.2).length 1 cs10 rs4 5]→RL S4 cs9 t2.1→RL S4 cs10 t2.2→K5 (fr 50 m6) w12:=by
   clear H;intro cs9 rs3 cs10 rs4 m6 w12 k7 H g9 g10
   have q9:=(k7 1 rfl).trans ((k3 1).trans q2)
   have q10:look m6 5=pv1:=(k7 5 rfl).trans (k3 5)
   have q11:look m6 6=pv2:=(k7 6 rfl).trans (k3 6)
   refine hK5 _ _<|wp_seq_k fun K12 hK12=>bn hF2 fun y12 e12 hF2=>bn hF2 fun y13 e13 hF2=>bn hF2 fun y14 e14 hF2=>bn hF2 fun y15 e15 hF2=>wrS H 9 [(6,.inl (str (y13))),(8,.inl (str (y15)))] fun vs3 H=>?_
   refine tp (zaE (v:=pv2) q11)<|t_v (fun w hx=>ykN u100 u5 u9 rfl (H.ext hx) (k:=0) rfl g9)<|tp (zaE (v:=pv1) q10)<|t_v (fun w hx=>ykN u100 u5 u9 rfl (H.ext hx) (k:=1) rfl g10)<|tp (zaE q9)<|tp (ylP (r:=y12) rfl rfl (by have:=(zcW e12).1;omega) (zcW e12).2) ?_
   refine tcx is97 (fun w hx=>zxV (H.ext hx).sub e13)<|tp (ylP (r:=y14) rfl rfl (by have:=(zcW e14).1;omega) (zcW e14).2) ?_
   refine tcx is97 (fun w hx=>zxV (H.ext hx).sub e15)<|zmR<|H.tn fun w13 H=>asT rfl<|wpList_nil<|zdC<|xn hK12<|wp_ret ?_
   obtain rfl:=osi hF2
   refine e_1 rfl (ziX rfl) ?_
   exact⟨rfl,H.toExt⟩
  refine sr fun K6 hK6=>p_mv ((k3 0).trans q1)<|zaC (zqM (N:=(t1).length) u9 rfl rfl)<|mvI rfl<|xk hK6<|wp_block<|zbT fun m4 k4=>bn hE2 fun out1 hL1 hE3=>?_
  refine zjM (7::rg 19 22 []) (fun(s1:Int×Bs×Bs) (m5:FM) (w7:World)=>∃(cs3 rs1:LV) (cs4 rs2:LV),look m5 19 = .int .i64 (s1.1)∧HS ⟨S,[],w⟩ S4 w7 [.osl (pv2) (s1.2.1).length 1 cs3 rs1 5,.osl (pv1) (s1.2.2).length 1 cs4 rs2 5]∧RL S4 cs3 s1.2.1∧RL S4 cs4 s1.2.2) hL1 ⟨_,_,_,_,(k4 19),H,pg2,pg1⟩ ?_
  clear H;intro k6 s1 m5 w7 k5 hI1 o3 hb1 hh1;obtain⟨cs3,rs1,cs4,rs2,q3,H,g5,g6⟩:=hI1
  have q4:=(k5 1 rfl).trans ((k4 1).trans ((k3 1).trans q2))
  have q5:=(k5 0 rfl).trans ((k4 0).trans ((k3 0).trans q1))
  have q6:look m5 5=pv1:=(k5 5 rfl).trans ((k4 5).trans (k3 5))
  have q7:look m5 6=pv2:=(k5 6 rfl).trans ((k4 6).trans (k3 6))
  have q8:look m5 18 = .int .i64 (((t1).length:Int)):=(k5 18 rfl).trans (k4 18)
  refine sr fun K7 hK7=>zaC (zfP q3 q8)<|xk hK7<|wp_seq_k fun K8 hK8=>?_
  refine zfJ hb1 rfl (fun hb1 hc2=>?_) fun hb1 hc2=>?_
  ·refine wp_skip ?_
   refine xn hK8<|wp_seq_k fun K9 hK9=>wp_block<|sr fun K10 hK10=>p_mv q3<|asI rfl<|xk hK10<|wp_seq_k fun K11 hK11=>bn hb1 fun y4 e4 hb1=>?_
   obtain⟨b1,c1,hv1⟩:=H.ownAt (k:=1) rfl (zbB e4)
   subst hv1
   have hr1:=RL.get g6 (zaB e4).2;generalize hghr1:piece cs4 _ _=cs5 at hr1
   obtain rfl:=elU8 hr1
   refine bn hb1 fun y5 e5 hb1=>bn hb1 fun y6 e6 hb1=>wrS H 9 [] fun vs1 H=>?_
   refine tp (zaE (v:=(sl b1 0 (s1.2.2).length c1)) q6)<|tp (zaE (v:=.int .i64 (s1.1)) rfl)<|tp (zaP (i:=(s1.1:Int).toNat) u100 tsz5 rfl rfl rfl (zaB e4).1 (zbB e4))<|t_v (fun w hx=>ziO (v:=.int .u8 (((y4).toNat:Int))) to5 (H.ext hx) (k:=1) rfl rfl (zbB e4) hghr1)<|tp (zaE q5)<|tp (zaE (v:=.int .i64 (s1.1)) rfl) ?_
   refine tp (ydS (i:=(s1.1:Int).toNat) (u:=y5) u9 rfl rfl (zaB e5).1 (zaB e5).2)<|tp (zbH (bo:=.xor) (by simp) rfl rfl (yjA _ _))<|tp (zaP (i:=(s1.1:Int).toNat) u100 tsz5 rfl (HS.ownV H (k:=1) rfl) rfl (zaB e6).1 (zbB e6))<|zmR<|H.tn fun w8 H=>bn hb1 fun y7 e7 hb1=>?_
   refine yfK (zlU (k:=1) (l:=[Value.int .u8 ((((y4^^^y5)).toNat:Int))]) tsz5 rfl H rfl g6 rfl rfl (cells_one rfl) rpU8 e7) fun w9 cs6 H g7=>wpList_nil<|zdC<|xn hK11<|bn hb1 fun y8 e8 hb1=>?_
   obtain⟨b3,c3,hv3⟩:=H.ownAt (k:=0) rfl (zbB e8)
   subst hv3
   have hr2:=RL.get g5 (zaB e8).2;generalize hghr2:piece cs3 _ _=cs7 at hr2
   obtain rfl:=elU8 hr2
   refine bn hb1 fun y9 e9 hb1=>bn hb1 fun y10 e10 hb1=>wrS H 9 [] fun vs2 H=>?_
   refine tp (zaE (v:=(sl b3 0 (s1.2.1).length c3)) q7)<|tp (zaE (v:=.int .i64 (s1.1)) rfl)<|tp (zaP (i:=(s1.1:Int).toNat) u100 tsz5 rfl rfl rfl (zaB e8).1 (zbB e8))<|t_v (fun w hx=>ziO (v:=.int .u8 (((y8).toNat:Int))) to5 (H.ext hx) (k:=0) rfl rfl (zbB e8) hghr2)<|tp (zaE q5)<|tp (zaE (v:=.int .i64 (s1.1)) rfl) ?_
   refine tp (ydS (i:=(s1.1:Int).toNat) (u:=y9) u9 rfl rfl (zaB e9).1 (zaB e9).2)<|tp (zbH (bo:=.xor) (by simp) rfl rfl (yjA _ _))<|tp (zaP (i:=(s1.1:Int).toNat) u100 tsz5 rfl (HS.ownV H (k:=0) rfl) rfl (zaB e10).1 (zbB e10))<|zmR<|H.tn fun w10 H=>bn hb1 fun y11 e11 hb1=>?_
   refine yfK (zlU (k:=0) (l:=[Value.int .u8 ((((y8^^^y9)).toNat:Int))]) tsz5 rfl H rfl g5 rfl rfl (cells_one rfl) rpU8 e11) fun w11 cs8 H g8=>wpList_nil<|zdC<|zdM<|xn hK9<|wp_region_lit<|zaC (zdS q3 rfl)<|mvI rfl<|wpList_nil<|zaJ ?_
   obtain rfl:=osi hb1
   exact⟨((w64 (s1.1+1)),y11,y7),_,rfl,(kS k5 rfl kcx),⟨_,_,_,_,rfl,H,g8,g7⟩,hh1⟩
  ·refine wp_exit ?_
   refine zaW<|zaW<|ziQ<|zaJ ?_
   obtain rfl:=osi hb1
   obtain rfl:=osi hh1
   obtain rfl:=osi hE3
   exact J1 _ _ _ _ _ _ (kS k5 rfl (kN k4 kcx)) H g5 g6
 refine sr fun K3 hK3=>p_mv (k1 0)<|zaC (zqM (N:=(x0).length) u9 rfl rfl)<|zaC (yaE rfl rfl)<|xk hK3 ?_
 refine zfJ hE1 rfl (fun hE1 hc1=>?_) fun hE1 hc1=>?_
 ·refine wp_region_lit ?_
  refine p_mv (k1 0)<|bn hE1 fun y1 e1 hE1=>zeX is97 rfl<|(zxV H.sub e1).mono<|H.xe fun w1 H=>asT rfl<|wpList_nil<|zaJ ?_
  obtain rfl:=osi hE1
  exact J2 _ _ kcx rfl H
 ·refine wp_skip ?_
  refine zaJ ?_
  obtain rfl:=osi hE1
  exact J2 _ _ kcx (k1 0) H
end
section
variable {α β γ σ:Type}
theorem ynZ(p:UInt8→Bool)(h:(List.range 256).all (fun n=>p (UInt8.ofNat n))=true)(b:UInt8):p b=true:=by
 have:=List.all_eq_true.1 h b.toNat (by have:=b.toNat_lt;simp only[List.mem_range];omega)
 simpa using this
theorem zaA(x:α)(f:α→Option β):(some x).bind f=f x:=rfl
theorem zaS{x:Int}(h:-9223372036854775808≤x)(h2:x≤9223372036854775807):w64 x=x:=wr64 h (by omega)
theorem zbO{l:List α}{i:Nat}{j:Int}(hj:j=(i:Int))(h:i<l.length):idx l j=some l[i]:=by
 subst hj;rw[idx_nat];exact List.getElem?_eq_getElem h
theorem xdC{n:Nat}{z:α}(h:n≤68719476736):mkL (n:Int) z=some (List.replicate n z):=by
 unfold mkL
 have h':(n:Int)≤(LIM:Int):=by unfold LIM;omega
 have h0:(0:Int)≤(n:Int):=by omega
 simp only[h',h0,decide_true,Bool.and_self,cond_true,Int.toNat_natCast]
theorem zeO{c:Bool}(h:c=true):chk c=some ():=by subst h;rfl
theorem yjS{c:Bool}{a b:α}(h:c=true):(bif c then a else b)=a:=by subst h;rfl
theorem ynQ{c:Bool}{a b:α}(h:c=false):(bif c then a else b)=b:=by subst h;rfl
theorem zaY{p:Prop}[Decidable p]{a b:α}(h:p):(bif decide p then a else b)=a:=by simp[h]
theorem zaZ{p:Prop}[Decidable p]{a b:α}(h:¬p):(bif decide p then a else b)=b:=by simp[h]
theorem zaM{body:σ→Option (σ⊕β)}(st:Nat→σ)(n:Nat)(hn:n<1099511627776)(b:β)(h:∀k,k<n→body (st k)=some (.inl (st (k+1))))(he:body (st n)=some (.inr b)):iter body (st 0)=some b:=by
 have key:∀j k,k≤n→n-k<j→zxC body j (st k)=some b:=by
  intro j
  induction j with
  |zero=>intro k _ h;omega
  |succ j ih=>
   intro k hk hj
   by_cases e:k=n
   ·subst e;exact zwA he
   ·rw[zxU (h k (by omega))];exact ih (k+1) (by omega) (by omega)
 exact key FU 0 (by omega) (by unfold FU;omega)
theorem yaM{l:List α}{k:Nat}(h:k<l.length):l.take (k+1)=l.take k++[l[k]]:=by
 rw[List.take_add_one,List.getElem?_eq_getElem h];rfl
end
end Go.Proofs.YtmkomlbiaebddaaGreatDoor
