/- The law 'seneschallaw12.PeopleRow' holds of every input whose arguments hold together at most 1048576 values and letters, and its card. Conditions: the row's listed tables hold what the program's text lays; the arguments' bulk is at most 1048576. -/
import Derived.KernelRfl
import Derived.Test.YtopanhneegpgcaaGreatDoorRows
import Derived.Test.YtopanhneegpgcaaGreatDoorTie
import Derived.Test.YtopanhneegpgcaaGreatDoorCards
import Derived.ProofKit
import Derived.OpenShut
import Derived.Carry
import Derived.JoinedCond
import Derived.ChangeMaps5
import Derived.Deep.SlicePairs
import Derived.Deep.DeepHandedRow
import Derived.Lib.LaidTab
import Derived.SevenTiedAt
import Derived.Stop.LaidErr
import Derived.Test.YtopanhneegpgcaaGreatDoorQrL
namespace Go.Proofs.YtopanhneegpgcaaGreatDoor.Am
open Go Go.RowKit
section
section
variable {S R:Type}
theorem yhY{f:S→List (Option (S⊕R))}(hne:∀s,f s≠[]):∀(n:Nat) {s:S} {r r':R} {m:Nat},Rng f n s r→Rng f m s r'→r=r'
 |0,_,_,_,_,h,_=>h.elim
 |_+1,_,_,_,0,_,h=>h.elim
 |n+1,s,r,r',m+1,h,h'=>by
  obtain⟨o,ho⟩:=List.exists_mem_of_ne_nil _ (hne s)
  have h1:=h o ho
  have h2:=h' o ho
  match o,h1,h2 with
  |some (.inl s'),h1,h2=>exact yhY hne n h1 h2
  |some (.inr r0),h1,h2=>exact h1.symm.trans h2
theorem yvW{f:S→List (Option (S⊕R))}(hne:∀s,f s≠[]){n:Nat}{s:S}{r:R}(h:Rng f n s r):rngA f s=some r:=by
 unfold rngA
 have hx:∃r n,Rng f n s r:=⟨r,n,h⟩
 rw[dif_pos hx]
 obtain⟨m,hm⟩:=hx.choose_spec
 rw[yhY hne m hm h]
theorem zyO{α γ:Type}(l:List α)(d:γ)(F:α→γ):rngL l d F≠[]:=by
 unfold rngL
 cases l<;>simp
def allE(eq:R→Bool)(g:S→Bool):List (Option (S⊕R))→Bool
 |[]=>true
 |none::_=>false
 |some (.inl s)::l=>g s&&allE eq g l
 |some (.inr r)::l=>eq r&&allE eq g l
def rngE(eq:R→Bool)(f:S→List (Option (S⊕R))):Nat→S→Bool
 |0,_=>false
 |n+1,s=>allE eq (rngE eq f n) (f s)
theorem yfF{eq:R→Bool}{g:S→Bool}{p:S→Prop}{r:R}(hr:∀x,eq x=true→x=r)(hg:∀s,g s=true→p s):∀{l:List (Option (S⊕R))},allE eq g l=true→∀o∈l,rngO p r o
 |[],_,_,ho=>by cases ho
 |none::_,h,_,_=>by cases h
 |some (.inl s)::l,h,o,ho=>by
  have h:(g s&&allE eq g l)=true:=h
  rcases List.mem_cons.1 ho with rfl|ho
  ·exact hg s (zaM h)
  ·exact yfF hr hg (zaP h) o ho
 |some (.inr x)::l,h,o,ho=>by
  have h:(eq x&&allE eq g l)=true:=h
  rcases List.mem_cons.1 ho with rfl|ho
  ·exact hr x (zaM h)
  ·exact yfF hr hg (zaP h) o ho
theorem ypU{eq:R→Bool}{f:S→List (Option (S⊕R))}{r:R}(hr:∀x,eq x=true→x=r):∀(n:Nat) {s:S},rngE eq f n s=true→Rng f n s r
 |0,_,h=>by cases h
 |n+1,_,h=>yfF hr (fun s hs=>ypU hr n hs) h
theorem yeB[DecidableEq R]{f:S→List (Option (S⊕R))}{s:S}(n:Nat)(r:R)(hne:∀s,f s≠[])(h:rngE (fun x=>decide (x=r)) f n s=true):rngA f s=some r:=
 yvW hne (ypU (fun _ hx=>of_decide_eq_true hx) n h)
end
abbrev uS:List (Bs×Bs×Bs×Bool×Int):=[([97,110,110],[97,110,110],[97,64,120],true,1)]
abbrev g1S:List (Bs×(List Bs×List Bs×List Bs)×Int):=[([103],([],[[104]],[]),2),([104],([[97,110,110]],[],[]),2)]
abbrev gS:List (Bs×(List Bs×List Bs×List Bs)×Int):=[([103],([],[[104]],[[114]]),3),([104],([[97,110,110]],[],[]),2)]
abbrev rS:List (Bs×Bs×List Bs):=[([114],[114],[[114,101,97,100]])]
abbrev cS:List (Bs×Bs×Bs×List Bs×List Bs×Bool×Bool×Bool×Bool):=[]
abbrev mS:List ((Bs×Bs)×Unit):=[]
abbrev wS:List (Bs×Bs):=[([103,114,111,117,112,47,103],[49,58,51,49,58,48,49,58,49,49,58,104,49,58,49,49,58,114]),([103,114,111,117,112,47,104],[49,58,50,49,58,49,51,58,97,110,110,49,58,48,49,58,48]),([114,111,108,101,47,114],[49,58,49,52,58,114,101,97,100]),([117,115,101,114,47,97,110,110],[51,58,97,64,120,49,58,49,49,58,49])]
theorem zaG{α β:Type}{a:α}{f:α→Option β}:Option.bind (some a) f=f a:=rfl
set_option synthInstance.maxSize 4000
set_option synthInstance.maxHeartbeats 400000
instance iA:DecidableEq Bs:=inferInstance
instance i2:DecidableEq (Bs×Bs×Bs×Bool×Int):=inferInstance
instance i7:DecidableEq (Bs×(List Bs×List Bs×List Bs)×Int):=inferInstance
instance i3:DecidableEq (Bs×Bs×List Bs):=inferInstance
instance i9:DecidableEq (Bs×Bs×Bs×List Bs×List Bs×Bool×Bool×Bool×Bool):=inferInstance
instance iM:DecidableEq ((Bs×Bs)×Unit):=inferInstance
theorem in_e:zbV zaR [97,110,110] uS gS rS cS mS=some ([[103],[104]],uS,gS,rS,cS,mS):=by
 unfold zbV
 rw[yeB 40 (uS,gS,rS,cS,mS,([([103],()),([104],())]:List (Bs×Unit))) (fun s=>by
  cases s with
  |inl x=>exact List.cons_ne_nil _ _
  |inr x=>exact zyO _ _ _) (by kernel_rfl)]
 kernel_rfl
theorem yqI:zbK zaR uS gS rS cS mS=some (true,uS,gS,rS,cS,mS):=by
 unfold zbK
 rw[yeB 10 (uS,gS,rS,cS,mS,([([103],[[104]]),([104],[])]:List (Bs×List Bs))) (by intro s;exact zyO _ _ _) (by kernel_rfl),zaG]
 rw[yeB 40 (uS,gS,rS,cS,mS,([]:List (Bs×List Bs))) (fun s=>by
  cases s with
  |inl x=>exact List.cons_ne_nil _ _
  |inr x=>exact zyO _ _ _) (by kernel_rfl)]
 kernel_rfl
theorem ywJ:zbS zaR uS gS rS cS mS=some (true,uS,gS,rS,cS,mS):=by
 unfold zbS
 rw[show zhI zaR uS gS rS cS mS=some (.inr (uS,gS,rS,cS,mS)) by kernel_rfl,zaG]
 show Option.bind (rngA _ (uS,gS,rS,cS,mS,List.map Prod.fst gS)) _=_
 rw[yeB 10 (.inl (uS,gS,rS,cS,mS)) (by intro s;exact zyO _ _ _) (by kernel_rfl),zaG]
 show Option.bind (rngA _ (uS,gS,rS,cS,mS,List.map Prod.fst mS)) _=_
 rw[yeB 10 (.inl (uS,gS,rS,cS,mS)) (by intro s;exact zyO _ _ _) (by kernel_rfl),zaG]
 show Option.bind (zbK zaR uS gS rS cS mS) _=_
 rw[yqI]
 rfl
theorem yxW:zbO zaR [97,110,110] uS gS rS cS mS=some ([[114,101,97,100]],uS,gS,rS,cS,mS):=by
 unfold zbO
 rw[in_e,zaG]
 kernel_rfl
theorem yzJ:zcR zaR uS gS rS cS mS=some (wS,uS,gS,rS,cS,mS):=by kernel_rfl
theorem yzQ:zfY zaR wS=some (.inr (0,uS,gS,rS,cS,mS)):=by
 unfold zfY
 rw[show zhW zaR=some ([],[],[],[],[]) by kernel_rfl,zaG]
 rw[show iter (fun x=>zrT zaR wS x.1 x.2.1 x.2.2.1 x.2.2.2.1 x.2.2.2.2.1 x.2.2.2.2.2) ((0:Int),([],[],[],[],[]))=some (.inr (uS,gS,rS,cS,mS)) by kernel_rfl,zaG]
 show Option.bind (zbS zaR uS gS rS cS mS) _=_
 rw[ywJ]
 rfl
theorem ywR:zdP zaR=some true:=by
 unfold zdP
 rw[show zhW zaR=some ([],[],[],[],[]) by kernel_rfl,zaG]
 rw[show zgM zaR ([],[],[],[],[])=some (.inr (uS,g1S,[],cS,mS)) by kernel_rfl,zaG]
 show Option.bind (zdG zaR (uS,g1S,[],cS,mS)) _=_
 rw[show zdG zaR (uS,g1S,[],cS,mS)=some (.inr (uS,gS,rS,cS,mS)) by kernel_rfl,zaG]
 show Option.bind (zbV zaR [97,110,110] uS gS rS cS mS) _=_
 rw[in_e,zaG]
 show Option.bind (zbO zaR [97,110,110] uS gS rS cS mS) _=_
 rw[yxW,zaG]
 show Option.bind (zcR zaR uS gS rS cS mS) _=_
 rw[yzJ,zaG]
 show Option.bind (zfY zaR wS) _=_
 rw[yzQ]
 kernel_rfl
def yiA:PC:=⟨[],[.b],fun _=>some true,false⟩
theorem yrS{G:List (Nat×Obj)}[zmC G]:PCok Tryz.prog G 24 yiA:=by
 have h:=zmH (tabs:=G) (o:=zaR)
 unfold zgP at h
 rw[ywR]at h
 exact h
end
def τWkT:TE:=[(3,⟨.int .i64,1,[.v (.i .i64) (show Int from 0)],(.i .i64),8⟩),
 (4,⟨.b,1,[.v .b (show Bool from false)],.b,1⟩),
 (5,⟨.int .u8,1,[.v (.i .u8) (show UInt8 from 0)],(.i .u8),1⟩),
 (9,⟨.s,1,[.v .s (show Bs from [])],.s,16⟩),
 (22,⟨.sl 9,1,[.nils],(.sl .s),24⟩),
 (102,⟨.sl 5,1,[.nils],(.sl (.i .u8)),24⟩)]
theorem τ_okWkT:TEok Tryz.prog τWkT:=yoY (by kernel_rfl) (by kernel_rfl)
theorem ytM:Tryz.prog.follows .mixedOrders=true:=by kernel_rfl
theorem xdX {G : List (Nat × Obj)} {o : Ops} [zmC G] [ziO G o] {Γ : CT} {η : HT} {f : FuncId} {fn : Func} {c : SC} (hΓ : ∀ B, GB G B → CTok Tryz.prog Γ B) (hf : Tryz.prog.funcs[f]? = some fn) (i : (fn.name == "runtime.NumGoroutine") = false := by kernel_rfl) (j : fn.body.isNone = false := by kernel_rfl) (l : Nat.ble c.I.sl.length fn.ntmps = true := by kernel_rfl) (r : Nat.beq fn.results.toList.length c.nr = true := by kernel_rfl) (e : fnS τWkT Γ η fn c.I c.outs = c.p := by kernel_rfl) : SCok Tryz.prog G f c := witO (G := G) (o := o) <| yvY ytM τ_okWkT hΓ hf (isFn hf i j) l r e
theorem yyP {G : List (Nat × Obj)} {o : Ops} [zmC G] [ziO G o] {Γ : CT} {η : HT} {f : FuncId} {fn : Func} {c : PC} (hΓ : ∀ B, GB G B → CTok Tryz.prog Γ B) (hf : Tryz.prog.funcs[f]? = some fn) (i : (fn.name == "runtime.NumGoroutine") = false := by kernel_rfl) (j : fn.body.isNone = false := by kernel_rfl) (l : Nat.ble c.ash.length fn.ntmps = true := by kernel_rfl) (r : c.cl = false := by kernel_rfl) (e : fnP τWkT Γ η fn c.ash c.rts = c.p := by kernel_rfl) : PCok Tryz.prog G f c := witO (G := G) (o := o) <| yvC ytM τ_okWkT hΓ hf (isFn hf i j) l r e
section
variable {tabs:List (Nat×Obj)}[zmC tabs]{o:Ops}[ziO tabs o]
def zdO(_o:Ops)(v0:List Bs)(v1:List Bs)(v2:Int):Option (Int⊕(Bool⊕Unit)):=
 bif decide (v2<(v0.length:Int))then((idx v0 v2).bind fun v3=>(idx v1 v2).bind fun v4=>bif(v3 != v4)then some (.inr (.inl false))else some (.inl (w64 (v2+1))))else some (.inr (.inr ()))
def zbU(o:Ops)(v0:List Bs)(v1:List Bs):Option (Bool):=
 bif((v0.length:Int) != (v1.length:Int))then(some false)else((iter (zdO o v0 v1) (0:Int)).bind fun v5=>match v5 with
 |.inl v6=>(some v6)
 |.inr _v7=>(some true))
def zgR(o:Ops):PC:=⟨[(.h (.sl .s)),(.h (.sl .s))],[.b],fun x=>zbU o x.1 x.2,false⟩
theorem znU:PCok Tryz.prog tabs 21 (zgR o):=yyP (o:=o) (η:=[(200004,.loop [] ⟨[(5,hI)],[]⟩ [0,1] [(some 1000000,⟨[(4,hB)],[]⟩),(some 0,⟨[],[]⟩)]),
 (4000006,.sch [(.pu,0,[]),(.pu,1,[]),(.pu,2,[]),(.pu,3,[]),(.pu,4,[]),(.pu,5,[]),(.pu,6,[]),(.pu,7,[]),(.pu,8,[])])]) (Γ:=⟨[],[],false,[]⟩) (ctok trivial trivial) Tryz.func21
end
section
variable {α β γ σ:Type}
def T(o:Option α)(P:α→Prop):Prop:=∃r,o=some r∧P r
theorem T.ok{a:α}{P:α→Prop}(h:P a):T (some a) P:=⟨a,rfl,h⟩
theorem T.bind{o:Option α}{f:α→Option β}{Q:α→Prop}{P:β→Prop}(h:T o Q)(g:∀a,Q a→T (f a) P):T (o.bind f) P:=by
 obtain⟨a,rfl,h⟩:=h
 exact g a h
theorem T.bif{c:Bool}{a b:Option α}{P:α→Prop}(h:c=true→T a P)(g:c=false→T b P):T (bif c then a else b) P:=by
 cases c
 ·exact g rfl
 ·exact h rfl
theorem T.mono{o:Option α}{P Q:α→Prop}(h:T o P)(g:∀a,P a→Q a):T o Q:=by
 obtain⟨a,h1,h2⟩:=h
 exact⟨a,h1,g a h2⟩
theorem T.get{o:Option Bool}{P:Bool→Prop}(h:T o P):o=some (o.getD false):=by
 obtain⟨a,rfl,_⟩:=h
 rfl
theorem T.at{o:Option α}{P:α→Prop}{a:α}(h:T o P)(e:o=some a):P a:=by
 obtain⟨b,e2,h2⟩:=h
 rw[e]at e2
 cases e2
 exact h2
theorem T.idx{l:List α}{i:Int}{P:α→Prop}(h0:0≤i)(h:i<(l.length:Int))(g:∀(k:Nat) (hk:k<l.length),i=(k:Int)→P l[k]):T (idx l i) P:=by
 obtain⟨k,rfl⟩:∃k:Nat,i=k:=⟨i.toNat,by omega⟩
 exact⟨_,ynF rfl (by omega),g k (by omega) rfl⟩
theorem T.ix{l:List α}{i:Int}(h0:0≤i)(h:i<(l.length:Int)):T (Go.Proofs.YtopanhneegpgcaaGreatDoor.idx l i) fun _=>True:=T.idx h0 h fun _ _ _=>trivial
theorem T.iter{body:σ→Option (σ⊕β)}(I:σ→Prop)(m:σ→Nat)(G:β→Prop)(hr:∀s,I s→T (body s) fun r=>match r with
  |.inl s'=>I s'∧m s'<m s
  |.inr b=>G b) {s:σ} (hs:I s) (hm:m s<1099511627776):T (iter body s) G:=
 ydW I m G (fun s hs=>by
  obtain⟨r,h1,h2⟩:=hr s hs
  cases r with
  |inl s'=>exact .inl ⟨s',h1,h2⟩
  |inr b=>exact .inr ⟨b,h1,h2⟩) FU s hs (by unfold FU;exact hm)
theorem ytU{a b:List α}(h:a.length+b.length≤68719476736):app a b=some (a++b):=by
 unfold app
 rw[ylQ (by unfold LIM;omega)]
theorem T.app{a b:List α}{P:List α→Prop}(h:a.length+b.length≤68719476736)(g:P (a++b)):T (app a b) P:=⟨_,ytU h,g⟩
theorem T.places{body:Int→Option (Int⊕β)}(n:Nat)(hn:n<1099511627776)(G:β→Prop)(hr:∀k:Nat,k≤n→T (body (k:Int)) fun r=>match r with
  |.inl s'=>s'=((k+1:Nat):Int)∧k<n
  |.inr b=>G b):T (Go.Proofs.YtopanhneegpgcaaGreatDoor.iter body 0) G:=by
 refine T.iter (fun i=>0≤i∧i≤(n:Int)) (fun i=>(n-i).toNat) G (fun i hi=>?_) ⟨by omega,by omega⟩ (by omega)
 obtain⟨k,rfl⟩:∃k:Nat,i=k:=⟨i.toNat,by omega⟩
 refine(hr k (by omega)).mono fun r h=>?_
 cases r with
 |inl s=>obtain⟨rfl,h⟩:=h;exact⟨⟨by omega,by omega⟩,by omega⟩
 |inr b=>exact h
end
abbrev L8:Type:=Bs
theorem xdO{k:Nat}(h:k<1099511627776):w64 ((k:Int)+1)=((k+1:Nat):Int):=by rw[ytH (by omega) (by omega)];omega
theorem ypR(u:Nat)(hu:u<1000000000000000):zdI zaR (Lib.decDigits u)=some (.inr ()):=by
 have hl:=ztT 15 u (by decide) hu
 have ht:zaR.trim (Lib.decDigits u) tenL=some []:=ynG u hu
 unfold zdI
 by_cases h0:u=0
 ·subst h0
  rw[show Lib.decDigits 0=[48] by rw[zkI];rfl]at ht ⊢
  rw[show zaR.trim ([48]:Bs) ([48,49,50,51,52,53,54,55,56,57]:Bs)=some []from ht]
  rfl
 ·obtain⟨b,l,h1,h2⟩:=ymQ u h0
  rw[h1]at hl ht ⊢
  rw[show((b::l:Bs)==[])=false from rfl]
  simp only[cond_false]
  rw[yjQ (by simp only[List.length_cons]at hl ⊢;omega),show idx (b::l) 0=some b from rfl,zaG]
  have:((b.toNat:Int)==((48:UInt8).toNat:Int))=false:=beq_eq_false_iff_ne.2 fun e=>h2 (UInt8.toNat_inj.1 (by exact_mod_cast e))
  rw[this]
  simp only[cond_false]
  rw[show zaR.trim (b::l) ([48,49,50,51,52,53,54,55,56,57]:Bs)=some []from ht,zaG]
  rfl
theorem yeE(u:Nat)(hu:u<1000000000000000):zbP zaR (Lib.decDigits u)=some ((u:Int),true):=by
 unfold zbP
 rw[ypR u hu,zaG]
 simp only[]
 rw[show zaR.atoi (Lib.decDigits u)=some ((u:Int),false)from ylV u hu,zaG]
 rfl
theorem yrY(ts:List Bs)(hl:(zcJ ts).length<4294967281)(hn:ts.length<4294967281):zcC zaR (zcJ ts)=some (ts,true):=by
 have key:∀(k:Nat),k≤ts.length→(zcJ (ts.drop k)).length<4294967281:=by
  intro k hk
  induction k with
  |zero=>exact hl
  |succ k ih=>
   have:=ih (by omega)
   rw[List.drop_eq_getElem_cons (by omega)]at this
   simp only[zcJ,List.length_append,List.length_cons]at this
   omega
 have h:iter (fun x=>zcT zaR x.1 x.2) (zcJ (ts.drop 0),ts.take 0)=(some (.inr ts):Option (Bool⊕List Bs)):=by
  refine yiI (fun k=>(zcJ (ts.drop k),ts.take k)) ts.length (by omega) (Sum.inr ts) (fun k hk=>?_) ?_
  ·have hd:ts.drop k=ts[k]::ts.drop (k+1):=List.drop_eq_getElem_cons hk
   have hlen:=key k (by omega)
   have ht:ts.take (k+1)=ts.take k++[ts[k]]:=by rw[List.take_succ_eq_append_getElem hk]
   rw[hd]at hlen
   generalize ts[k]=t at hd hlen ht
   generalize ts.drop (k+1)=r at hd hlen
   have hlen2:(Lib.decDigits t.length++58::(t++zcJ r)).length<4294967281:=hlen
   have htl:t.length<4294967281:=by
    simp only[List.length_append,List.length_cons]at hlen2;omega
   have hne:(zcJ (ts.drop k) != ([]:Bs))=true:=by
    rw[hd]
    cases he:zcJ (t::r) with
    |nil=>exact absurd (List.append_eq_nil_iff.1 he).1 (ykV _)
    |cons a l=>rfl
   unfold zcT
   simp only[]
   rw[hne]
   simp only[cond_true]
   rw[hd,show zaR.cut (zcJ (t::r)) ([58]:Bs)=some (Lib.decDigits t.length,t++zcJ r,true)from ysG t.length (t++zcJ r) hlen2,zaG]
   simp only[]
   rw[yeE t.length (by omega),zaG]
   have hj:zeR zaR (ts.take k) (Lib.decDigits t.length,t++zcJ r,true) ((t.length:Int),true)=some (.inr (ts.take k)):=by
    unfold zeR
    simp only[Bool.not_true,cond_false]
    rw[yjQ (by rw[List.length_append];omega)]
   rw[hj,zaG]
   simp only[]
   rw[ynK (by rw[List.length_append];omega),zaG,List.take_left,Am.ytU (by rw[List.length_take];simp;omega),zaG,ht]
   rw[show subL (t++zcJ r) (t.length:Int)=some (zcJ r)from ?_,zaG]
   unfold subL
   rw[List.length_append,show(decide ((0:Int)≤(t.length:Int))&&decide ((t.length:Int)≤((t.length+(zcJ r).length:Nat):Int)))=true by simp;omega]
   simp
  ·rw[List.drop_length,List.take_length]
   rfl
 unfold zcC
 rw[List.drop_zero,List.take_zero]at h
 rw[h,zaG]
theorem zzB:∀(a b:List Bs),zcJ (a++b)=zcJ a++zcJ b
 |[],_=>rfl
 |t::a,b=>by
  show Lib.decDigits t.length++58::(t++zcJ (a++b))=(Lib.decDigits t.length++58::(t++zcJ a))++zcJ b
  rw[zzB a b];simp
theorem ykH(ts:List Bs)(hl:(zcJ ts).length<4294967281)(hn:ts.length<1099511627776):zeC ts=some (zcJ ts):=by
 have key:∀(k:Nat),(zcJ (ts.take k)).length≤(zcJ ts).length:=fun k=>by
  have:=zzB (ts.take k) (ts.drop k)
  rw[List.take_append_drop]at this
  rw[this,List.length_append];omega
 have h:iter (zdK ts) ((((0:Nat):Int)),zcJ (ts.take 0))=some (zcJ ts):=by
  refine yiI (fun k=>((k:Int),zcJ (ts.take k))) ts.length hn (zcJ ts) (fun k hk=>?_) ?_
  ·have ht:ts.take (k+1)=ts.take k++[ts[k]]:=by rw[List.take_succ_eq_append_getElem hk]
   have e:zcJ (ts.take (k+1))=zcJ (ts.take k)++(Lib.decDigits ts[k].length++58::ts[k]):=by
    rw[ht,zzB];simp[zcJ]
   have h1:=key (k+1)
   rw[e]at h1
   simp only[List.length_append,List.length_cons]at h1
   unfold zdK
   simp only[]
   rw[ylQ (by omega),ynF rfl hk,zaG,ynD _ (by omega),zaG,Am.ytU (by simp only[List.length_cons,List.length_nil];omega),zaG,Am.ytU (by simp only[List.length_append,List.length_cons,List.length_nil];omega),zaG]
   unfold zcO
   rw[show zeY (zcJ (ts.take k))=some _ from rfl,zaG,Am.ytU (by simp only[List.length_append,List.length_cons,List.length_nil];omega),zaG,zaG,ytH (by omega) (by omega),e]
   simp
  ·unfold zdK
   simp only[]
   rw[yjQ (by omega),List.take_length]
 unfold zeC
 have h:iter (zdK ts) ((0:Int),([]:Bs))=some (zcJ ts):=h
 rw[h,zaG,zaG,xaW (decide_eq_true (by omega)),zaG]
def numR(s:L8):Int×Bool:=bif numB s then((vaF s:Int),true)else(0,false)
theorem xbD{s:L8}(h:s.length≤1048576):zaR.trim s tenL=some (Lib.trimS s tenL):=by
 show ydV s tenL=_
 unfold ydV
 rw[decide_eq_true (show s.length≤9223372036854775807 by omega),decide_eq_true (show tenL.length<4294967281 by decide),show tenL.all (fun b=>decide (b.toNat<128))=true by decide]
 rfl
theorem is48(b:UInt8):((b.toNat:Int)==((48:UInt8).toNat:Int))=(b==48):=by
 have:=ygO (fun b=>((b.toNat:Int)==((48:UInt8).toNat:Int))==(b==48)) (by kernel_rfl) b
 simpa using this
theorem ywZ{b:UInt8}{l:L8}(hl:¬((b::l).length:Int)>15)(h48:(b==48)=false):numB (b::l)=(b::l).all digB:=by
 unfold numB
 rw[decide_eq_true (show(b::l).length≤15 by omega)]
 have h1:((b::l).head? != some 48)=true:=by simpa using h48
 rw[h1]
 rfl
theorem zzV(s:L8)(h:s.length≤1048576):zbP zaR s=some (numR s):=by
 cases hb:numB s with
 |true=>
  have hd:=ymZ hb
  unfold numR
  rw[hb]
  have:=yeE (vaF s) hd.2
  rw[hd.1]at this
  exact this
 |false=>
  have hj:zdI zaR s=some (.inl (0,false)):=by
   unfold zdI
   cases s with
   |nil=>rfl
   |cons b l=>
    rw[show((b::l:L8)==[])=false from rfl]
    simp only[cond_false]
    by_cases hl:((b::l).length:Int)>15
    ·rw[ylQ hl]
    ·rw[yjQ hl,show idx (b::l) 0=some b from rfl,zaG,is48]
     cases h48:b==48 with
     |true=>
      simp only[cond_true]
      cases hz:(b::l) != ([48]:L8) with
      |true=>rfl
      |false=>
       have e:b::l=[48]:=by simpa using hz
       rw[e]at hb;exact absurd hb (by decide)
     |false=>
      simp only[cond_false]
      rw[ywZ hl h48]at hb
      rw[show zaR.trim (b::l) ([48,49,50,51,52,53,54,55,56,57]:L8)=some (Lib.trimS (b::l) tenL)from xbD h,zaG,ysP,hb]
      rfl
  unfold zbP numR
  rw[hj,hb]
  rfl
theorem yrQ{α:Type}{l:List α}{p:α→Bool}{k:Nat}(hk:k<l.length):(l.take (k+1)).all p=((l.take k).all p&&p l[k]):=by
 rw[List.take_succ_eq_append_getElem hk,List.all_append,List.all_cons,List.all_nil,Bool.and_true]
theorem xbM{α:Type}{l:List α}{p:α→Bool}{k:Nat}(hk:k<l.length)(h:p l[k]=false):l.all p=false:=by
 cases ha:l.all p with
 |false=>rfl
 |true=>rw[List.all_eq_true.1 ha _ (List.getElem_mem hk)]at h;cases h
theorem yyJ(f:Nat):txtF f []=some []:=by cases f<;>rfl
def txtR(acc:List L8)(o:Option (List L8)):Bool⊕List L8:=match o with
 |some l=>.inr (acc++l)
 |none=>.inl false
theorem ynE(acc:List L8)(t:L8)(o:Option (List L8)):txtR acc (o.map (t :: ·))=txtR (acc++[t]) o:=by
 cases o with
 |none=>rfl
 |some l=>show Sum.inr (acc++t::l)=Sum.inr ((acc++[t])++l);simp
theorem xcF(f:Nat)(b:UInt8)(s:L8):txtF (f+1) (b::s)=match colF (b::s) with
  |none=>none
  |some (h,r)=>bif numB h&&decide (vaF h≤r.length)then(txtF f (r.drop (vaF h))).map (r.take (vaF h) :: ·)else none:=rfl
theorem xdU{s:L8}(h:s.length≤1048576):zaR.cut s ([58]:L8)=some (Lib.cut s [58]):=by
 show cutP s [58]=_
 unfold cutP
 rw[decide_eq_true (show s.length<4294967281 by omega)]
 rfl
theorem ytB:∀(f:Nat) (s:L8) (acc:List L8) (k:Nat),s.length≤f→f<k→acc.length+f≤1048577→s.length≤1048576→ztA (fun x:L8×List L8=>zcT zaR x.1 x.2) k (s,acc)=some (txtR acc (txtF f s))
 |f,[],acc,k+1,_,_,_,_=>by
  rw[yyJ]
  refine zqC ?_
  show some (Sum.inr (Sum.inr acc))=some (Sum.inr (Sum.inr (acc++[])))
  rw[List.append_nil]
 |0,b::s,_,_,h,_,_,_=>by simp at h
 |f+1,b::s,acc,k+1,hl,hk,ha,hs=>by
  have hbody:zcT zaR (b::s) acc=match colF (b::s) with
    |none=>some (.inr (.inl false))
    |some (h,r)=>bif numB h&&decide (vaF h≤r.length)then some (.inl (r.drop (vaF h),acc++[r.take (vaF h)]))else some (.inr (.inl false)):=by
   unfold zcT
   rw[show((b::s:L8) != [])=true from rfl]
   simp only[cond_true]
   rw[xdU hs,zaG,ywQ]
   cases hc:colF (b::s) with
   |none=>
    simp only[]
    rw[zzV _ hs,zaG]
    rfl
   |some p=>
    obtain⟨h,r⟩:=p
    have he:=(ztM hc).1
    have hlen:h.length+r.length+1=(b::s).length:=by rw[he];simp;omega
    simp only[]
    rw[zzV h (by omega),zaG]
    unfold zeR numR
    cases hn:numB h with
    |false=>rfl
    |true=>
     simp only[cond_true,Bool.not_true,cond_false,Bool.true_and]
     by_cases hv:vaF h≤r.length
     ·rw[yjQ (show ¬((vaF h:Nat):Int)>(r.length:Int) by omega),zaG,decide_eq_true hv]
      simp only[cond_true]
      rw[ynK hv,zaG,ytU (by simp;omega),zaG,yuV hv,zaG]
     ·rw[ylQ (show((vaF h:Nat):Int)>(r.length:Int) by omega),zaG,decide_eq_false hv]
      rfl
  rw[xcF]
  cases hc:colF (b::s) with
  |none=>
   rw[hc]at hbody
   exact zqC hbody
  |some p=>
   obtain⟨h,r⟩:=p
   have he:=(ztM hc).1
   have hlen:h.length+r.length+1=(b::s).length:=by rw[he];simp;omega
   rw[hc]at hbody
   simp only[]at hbody ⊢
   cases hb:numB h&&decide (vaF h≤r.length) with
   |false=>
    rw[hb]at hbody
    exact zqC hbody
   |true=>
    rw[hb]at hbody
    simp only[cond_true]at hbody ⊢
    rw[zuR hbody,ynE]
    exact ytB f (r.drop (vaF h)) (acc++[r.take (vaF h)]) k (by rw[List.length_drop];omega) (by omega) (by simp;omega) (by rw[List.length_drop];omega)
def txtP(s:L8):List L8×Bool:=((txtF s.length s).getD [],(txtF s.length s).isSome)
theorem ypA{s:L8}(h:s.length≤1048576):zcC zaR s=some (txtP s):=by
 unfold zcC
 rw[show iter _ (s,([]:List L8))=_ from ytB s.length s [] FU (Nat.le_refl _) (by unfold FU;omega) (by simp;omega) h,zaG]
 unfold txtP
 cases txtF s.length s<;>rfl
theorem yyW{α R:Type}{l:List α}{p:α→Bool}{body:Int→Option (Int⊕R)}{bad good:R}(hl:l.length<1099511627776)
  (hb:∀(k:Nat) (hk:k<l.length),body (k:Int)=some (bif p l[k]then .inl ((k+1:Nat):Int)else .inr bad)) (he:body (l.length:Int)=some (.inr good)):iter body (0:Int)=some (bif l.all p then good else bad):=by
 have hT:T (iter body (0:Int)) fun r=>r=(bif l.all p then good else bad):=by
  refine T.iter (fun x=>0≤x∧x≤(l.length:Int)∧(l.take x.toNat).all p=true) (fun x=>l.length-x.toNat) _ (fun x hx=>?_) ⟨Int.le_refl _,by omega,rfl⟩ (by omega)
  obtain⟨h1,h2,h3⟩:=hx
  obtain⟨k,rfl⟩:∃k:Nat,x=k:=⟨x.toNat,by omega⟩
  rw[Int.toNat_natCast]at h3
  by_cases hk:k<l.length
  ·rw[hb k hk]
   cases hp:p l[k] with
   |true=>exact T.ok ⟨⟨by omega,by omega,by rw[Int.toNat_natCast,yrQ hk,h3,hp];rfl⟩,by omega⟩
   |false=>exact T.ok (by rw[xbM hk hp];rfl)
  ·obtain rfl:k=l.length:=by omega
   rw[he]
   rw[List.take_of_length_le (Nat.le_refl _)]at h3
   exact T.ok (by rw[h3];rfl)
 obtain⟨r,h1,rfl⟩:=hT
 exact h1
theorem yxL{a:List L8}(h:a.length≤1048576):zbU zaR a a=some true:=by
 unfold zbU
 rw[bne_self_eq_false]
 simp only[cond_false]
 rw[yyW (l:=a) (p:=fun _=>true) (bad:=Sum.inl false) (good:=Sum.inr ()) (by omega) (fun k hk=>?_) ?_,zaG,List.all_eq_true.2 fun _ _=>rfl]
 ·rfl
 ·unfold zdO
  rw[yjQ (by omega)]
 ·unfold zdO
  rw[ylQ (show(k:Int)<(a.length:Int) by omega),ynF rfl hk,zaG,zaG,bne_self_eq_false,xdO (by omega)]
  rfl
def τWkU:TE:=[(22,⟨.sl 9,1,[.nils],(.sl .s),24⟩)]
theorem τ_okWkU:TEok Tryz.prog τWkU:=yoY (by kernel_rfl) (by kernel_rfl)
theorem ytR:Tryz.prog.follows .mixedOrders=true:=by kernel_rfl
theorem xdY {G : List (Nat × Obj)} {o : Ops} [zmC G] [ziO G o] {Γ : CT} {η : HT} {f : FuncId} {fn : Func} {c : SC} (hΓ : ∀ B, GB G B → CTok Tryz.prog Γ B) (hf : Tryz.prog.funcs[f]? = some fn) (i : (fn.name == "runtime.NumGoroutine") = false := by kernel_rfl) (j : fn.body.isNone = false := by kernel_rfl) (l : Nat.ble c.I.sl.length fn.ntmps = true := by kernel_rfl) (r : Nat.beq fn.results.toList.length c.nr = true := by kernel_rfl) (e : fnS τWkU Γ η fn c.I c.outs = c.p := by kernel_rfl) : SCok Tryz.prog G f c := witO (G := G) (o := o) <| yvY ytR τ_okWkU hΓ hf (isFn hf i j) l r e
theorem xbJ {G : List (Nat × Obj)} {o : Ops} [zmC G] [ziO G o] {Γ : CT} {η : HT} {f : FuncId} {fn : Func} {c : PC} (hΓ : ∀ B, GB G B → CTok Tryz.prog Γ B) (hf : Tryz.prog.funcs[f]? = some fn) (i : (fn.name == "runtime.NumGoroutine") = false := by kernel_rfl) (j : fn.body.isNone = false := by kernel_rfl) (l : Nat.ble c.ash.length fn.ntmps = true := by kernel_rfl) (r : c.cl = false := by kernel_rfl) (e : fnP τWkU Γ η fn c.ash c.rts = c.p := by kernel_rfl) : PCok Tryz.prog G f c := witO (G := G) (o := o) <| yvC ytR τ_okWkU hΓ hf (isFn hf i j) l r e
section
variable {tabs:List (Nat×Obj)}[zmC tabs]{o:Ops}[ziO tabs o]
def zcD(o:Ops)(v0:List Bs)(v3:(List Bs)×Bool):Option (Bool⊕Unit):=
 bif(!v3.2)then some (.inl false)else((zbU o v0 v3.1).bind fun v4=>bif(!v4)then some (.inl false)else some (.inr ()))
def zcL(o:Ops)(v0:List Bs)(v1:Bs):Option (Bool):=
 (o.form v0).bind fun v2=>(zcC o v2).bind fun v3=>(zcD o v0 v3).bind fun v5=>match v5 with
 |.inl v6=>(some v6)
 |.inr _v7=>((zcC o v1).bind fun v8=>bif(!v8.2)then(bif v8.2 then((some true).bind fun v9=>some v9)else(bif((v8.1.length:Int)==0)then((some true).bind fun v10=>some v10)else(some false)))else((o.form v8.1).bind fun v11=>bif(v11==v1)then(bif v8.2 then((some true).bind fun v12=>some v12)else(bif((v8.1.length:Int)==0)then((some true).bind fun v13=>some v13)else(some false)))else(some false)))
def zkA(o:Ops):PC:=⟨[(.h (.sl .s)),hS],[.b],fun x=>zcL o x.1 x.2,false⟩
theorem zzA:PCok Tryz.prog tabs 4 (zkA o):=xbJ (o:=o) (η:=[(2000004,.join [] [1] [(some 1000000,⟨[(4,hB)],[]⟩),(none,⟨[],[]⟩)])]) (Γ:=⟨[(22,(ztY o)),(11,(zqH o)),(21,(zgR o)),(24,yiA)],[],false,[]⟩) (ctok ⟨(ziO.form (G:=tabs)),⟨zyB,⟨znU,⟨yrS,trivial⟩⟩⟩⟩ trivial) Tryz.func4
end
end Go.Proofs.YtopanhneegpgcaaGreatDoor.Am
namespace Go.Proofs.YtopanhneegpgcaaGreatDoor
open Go Go.RowKit
section
open Go Go.RowKit Go.ChangeShapes Go.WideShapes Go.ChangeAt
section
variable {H:Type}{enc:TypeId×Value→H}{P:Program}{W W':World}
theorem zxB(hl:laidOutB P=true)(hx:Below W.heap.size W W'):∀{ts:List TypeId} {vs:LV} {ds:List (DataW H)} {ps:List MemPlace},ts.all (fun t=>P.readableRec t&&decide (t<P.types.size))=true →
  DataW.TrodAll enc P W 0 (fun _=>true) true ts vs ds ps→(∀x∈ps,x.block<W.heap.size)→DataW.TrodAll enc P W' 0 (fun b=>decide (b<W.heap.size)) true ts vs ds ps
 |[],vs,ds,ps,_,h,_=>by
  obtain⟨rfl,rfl,rfl⟩:=trodAll_nil h
  exact trodAll_mk0
 |t::ts,vs,ds,ps,ha,h,hlt=>by
  obtain⟨v,vs',d,ds',p,q,rfl,rfl,rfl,h0,hr⟩:=trodAll_cons h
  simp only[List.all_cons,Bool.and_eq_true,decide_eq_true_eq]at ha
  exact trodAll_cons_mk (Below.trod hl ha.1.1 ha.1.2 h0 hx fun x hx=>hlt x (List.mem_append.2 (.inl hx)))
   (zxB hl hx ha.2 hr fun x hx=>hlt x (List.mem_append.2 (.inr hx)))
theorem trodAll_length:∀{ts:List TypeId} {vs:LV} {ds:List (DataW H)} {ps:List MemPlace} {w:World} {b:Nat} {sp:Nat→Bool} {hd:Bool},DataW.TrodAll enc P w b sp hd ts vs ds ps→vs.length=ts.length∧ds.length=ts.length
 |[],vs,ds,ps,_,_,_,_,h=>by
  obtain⟨rfl,rfl,rfl⟩:=trodAll_nil h
  exact⟨rfl,rfl⟩
 |t::ts,vs,ds,ps,_,_,_,_,h=>by
  obtain⟨v,vs',d,ds',p,q,rfl,rfl,rfl,h0,hr⟩:=trodAll_cons h
  have:=trodAll_length hr
  simp[this.1,this.2]
theorem yrJ{f:Func}{s:ChangeSpec}{args:Array Value}{ds gs:List (DataW H)}{before:List MemPlace}{B:TypeId}{n:Nat}(hl:laidOutB P=true)(hv:s.vars=[])
  (hp:f.params.toList.all (fun t=>P.readableRec t&&decide (t<P.types.size))=true) (hn:f.params.toList.length=n) (hB:P.underlying B=some .bool) (hr:f.resultTypes = #[B])
  (hfn:∀ds:List (DataW H),ds.length=n→(s.fn H (ds++[])).results=[.lit (.bool true)]∧(s.fn H (ds++[])).args=ds∧(s.fn H (ds++[])).vars=[])
  (hW:DataW.Whole enc P f.params.toList s.vars false W args.toList ds gs before) (hx:Ext W W'):s.post enc P f false true false false W args (.bool true) W':=by
 have hW':=hW
 obtain⟨p,q,hA,hV,rfl,_,_⟩:=hW
 rw[hv]at hV
 obtain⟨rfl,rfl⟩:=trodVars_none hV
 have hA:DataW.TrodAll enc P W 0 (fun _=>true) true f.params.toList args.toList ds p:=hA
 have hlen:=trodAll_length hA
 obtain⟨f1,f2,f3⟩:=hfn ds (hlen.2.trans hn)
 refine⟨ds,[],p++[],[],p,[],hW',?_,?_,?_,Below.frame hx _,fun h=>by cases h⟩
 ·rw[f1,hr]
  exact trodAll_mk1 (shut_bool hB _)
 ·rw[f2]
  exact zxB hl hx hp hA fun x hxp=>by simpa using hW'.lt x (by simp[hxp])
 ·rw[f3,hv];exact rfl
variable {b0:Nat}{T E:TypeId}{v:Value}
theorem yqL{fits:TypeId→Bool}:∀{d:Nat} {e:TypeId} {count off n:Nat},rowAt P fits d e count off n=true→off≤count*P.cellsOf e
 |0,_,_,_,_,h=>by simp[rowAt]at h
 |d+1,e,count,off,n,h=>by
  unfold rowAt at h
  by_cases hs:P.cellsOf e=0
  ·simp[hs]at h
  ·have hd:=Nat.div_add_mod off (P.cellsOf e)
   have hm:=Nat.mod_lt off (Nat.pos_of_ne_zero hs)
   simp only[hs,if_false,Bool.or_eq_true,Bool.and_eq_true,decide_eq_true_eq,beq_iff_eq]at h
   rcases h with⟨⟨h1,h2⟩,_⟩|⟨h1,_⟩
   ·have h3:P.cellsOf e*(off/P.cellsOf e)≤P.cellsOf e*count:=Nat.mul_le_mul_left _ (by omega)
    rw[Nat.mul_comm count];omega
   ·have h3:P.cellsOf e*(off/P.cellsOf e+1)≤P.cellsOf e*count:=Nat.mul_le_mul_left _ (by omega)
    rw[Nat.mul_add,Nat.mul_one]at h3
    rw[Nat.mul_comm count];omega
theorem yeL:∀{d:Nat} {e:TypeId} {count off:Nat} {u:TypeId} {n:Nat},liesAt P d e count off u n=true→off≤count*P.cellsOf e
 |0,_,_,_,_,_,h=>by simp[liesAt]at h
 |d+1,e,count,off,u,n,h=>by
  unfold liesAt at h
  rw[Bool.or_eq_true]at h
  rcases h with h|h
  ·exact yqL h
  ·split at h
   ·exact yeL h
   ·cases h
theorem ysU{a:Addr}{len cap:Nat}(hu:P.underlying T=some (.slice E))(h:Value.okWide P W .any b0 T (.slice (some a) len cap)):
  a.spot=none∧∃cs R fz,W.heap[a.block]? = some (.cells cs R fz)∧a.off≤cs.size:=by
 simp only[Value.okWide,Cell.okWide,Cell.ok,hu]at h
 obtain⟨_,_,_,h2,row,cells,h3,h4⟩:=h
 refine⟨h2,?_⟩
 unfold World.shape? at h3
 split at h3
 ·rename_i c elem fz hb
  simp only[Option.some.injEq,Prod.mk.injEq]at h3
  obtain⟨rfl,rfl⟩:=h3
  have h5:=yeL h4
  have h6:=Nat.div_mul_le_self c.size (P.cellsOf elem)
  exact⟨c,_,fz,hb,by omega⟩
 ·cases h3
theorem ok_slice(hu:P.underlying T=some (.slice E))(h:Value.okWide P W .any b0 T v):v = .slice none 0 0∨∃a len cap,v = .slice (some a) len cap:=by
 simp only[Value.okWide,Cell.okWide,Cell.ok,hu]at h
 cases v with
 |slice a len cap=>
  cases a with
  |none=>
   left
   cases len with
   |zero=>cases cap with
    |zero=>rfl
    |succ n=>simp at h
   |succ n=>simp at h
  |some a=>exact .inr ⟨a,len,cap,rfl⟩
 |_=>simp at h
theorem ygN{l r:List (DataW H)}:Rows.uptoBulkAll (l++r)=Rows.uptoBulkAll l+Rows.uptoBulkAll r:=by
 induction l with
 |nil=>simp[Rows.uptoBulkAll]
 |cons x l ih=>simp only[List.cons_append,Rows.uptoBulkAll,ih];omega
end
end
end Go.Proofs.YtopanhneegpgcaaGreatDoor
namespace Go.Proofs.YtopanhneegpgcaaGreatDoor.Am
open Go Go.RowKit Go.ChangeShapes Go.WideShapes Go.ChangeAt
def dsz:(t:Ty)→den t→Nat
 |.s,x=>List.length x+1
 |.pr a c,x=>dsz a x.1+dsz c x.2
 |.un,_=>0
 |.sl e,x=>(List.map (dsz e) x).sum+1
 |_,_=>1
def fOk(q:TypeId→Ty→Bool)(c:TypeId→Nat):List Field→Nat→Ty→Bool
 |[],_,t=>match t with
  |.un=>true
  |_=>false
 |[f],off,t=>(q f.type t&&(Nat.beq f.offset off&&Nat.beq (c f.type) (tsz t)))||(match t with
  |.pr a .un=>q f.type a&&(Nat.beq f.offset off&&Nat.beq (c f.type) (tsz a))
  |_=>false)
 |f::g::fs,off,t=>match t with
  |.pr a r=>(q f.type a&&(Nat.beq f.offset off&&Nat.beq (c f.type) (tsz a)))&&fOk q c (g::fs) (off+tsz a) r
  |_=>false
def tyOk(P:Program):Nat→TypeId→Ty→Bool
 |0,_,_=>false
 |n+1,T,t=>match P.underlying T,t with
  |some (.int k),.i k'=>(ikEq k k').isSome
  |some .bool,.b=>true
  |some .string,.s=>true
  |some (.slice E),.sl e=>tyOk P n E e&&(Nat.beq (P.cellsOf E) (tsz e)&&Nat.blt 0 (tsz e))
  |some (.struct fs),t=>(Nat.beq (P.cellsOf T) (tsz t) && !(one t))&&fOk (tyOk P n) P.cellsOf fs.toList 0 t
  |_,_=>false
section
variable {H:Type}{enc:TypeId×Value→H}{P:Program}{W:World}{sp:Nat→Bool}{S:Mem}
theorem yzO:∀{k:IntKind} {n:Int},(Lit.int k n).wf=true→toI k (ofI k n)=n:=fun {k n} h=>by
 rw[ymL]
 cases k<;>simp[Lit.wf,IntKind.min,IntKind.max,IntKind.signed,IntKind.bits]at h<;>simp[IntKind.wrap,IntKind.signed,IntKind.bits]<;>omega
theorem ydA{a c:Ty}{cs:LV}{x:den a}{y:den c}(hx:rep a S (cs.take (tsz a)) x)(hy:rep c S (cs.drop (tsz a)) y):rep (.pr a c) S cs (x,y):=
 ⟨_,_,(List.take_append_drop (tsz a) cs).symm,hx,hy⟩
theorem ytJ:rep .un S ([]:LV) ():=rfl
theorem ycU{q:TypeId→Ty→Bool}{fuel:Nat}(hq:∀(T:TypeId) (t:Ty),q T t=true→∀cs d ps,DataW.trod enc P W 0 sp true fuel T cs=some (d,ps)→∃x:den t,rep t S cs x∧dsz t x≤Rows.uptoBulk d){cs:LV}:
  ∀(fs:List Field) (off:Nat) (t:Ty) (xs:List (DataW H×List MemPlace)),fOk q P.cellsOf fs off t=true→cs.length=off+tsz t →
   A2 (fun(f:Field) y=>DataW.trod enc P W 0 sp true fuel f.type ((cs.drop f.offset).take (P.cellsOf f.type))=some y) fs xs →
   ∃x:den t,rep t S (cs.drop off) x∧dsz t x≤Rows.uptoBulkAll (xs.map (·.1))
 |[],off,t,xs,h,hl,hA=>by
  cases t<;>simp only[fOk]at h<;>try (cases h;done)
  cases hA
  refine⟨(),?_,Nat.zero_le _⟩
  rw[List.drop_eq_nil_of_le (by rw[hl];exact Nat.le_refl _)]
  exact ytJ
 |[f],off,t,xs,h,hl,hA=>by
  cases hA with
  | @cons _ y _ _ h1 h2=>
   cases h2
   simp only[fOk,Bool.or_eq_true]at h
   rcases h with h|h
   ·rw[Bool.and_eq_true,Bool.and_eq_true]at h
    obtain⟨h0,h2,h3⟩:=h
    have h2:=Nat.eq_of_beq_eq_true h2
    have h3:=Nat.eq_of_beq_eq_true h3
    obtain⟨x,hx,hd⟩:=hq _ _ h0 _ _ _ h1
    refine⟨x,?_,by simp only[List.map_cons,List.map_nil,Rows.uptoBulkAll];omega⟩
    rw[h2,h3,List.take_of_length_le (by rw[List.length_drop];omega)]at hx
    exact hx
   ·cases t with
    |pr a c=>
     cases c with
     |un=>
      rw[Bool.and_eq_true,Bool.and_eq_true]at h
      obtain⟨h0,h2,h3⟩:=h
      have h2:=Nat.eq_of_beq_eq_true h2
      have h3:=Nat.eq_of_beq_eq_true h3
      obtain⟨x,hx,hd⟩:=hq _ _ h0 _ _ _ h1
      rw[h2,h3]at hx
      have hl:cs.length=off+tsz a:=hl
      refine⟨(x,()),ydA hx ?_,by simp only[List.map_cons,List.map_nil,Rows.uptoBulkAll];show dsz a x+0≤_;omega⟩
      rw[List.drop_eq_nil_of_le (by rw[List.length_drop];omega)]
      exact ytJ
     |_=>simp at h
    |_=>simp at h
 |f::g::fs,off,t,xs,h,hl,hA=>by
  cases t with
  |pr a r=>
   simp only[fOk]at h
   rw[Bool.and_eq_true,Bool.and_eq_true,Bool.and_eq_true]at h
   obtain⟨⟨h1,h2,h3⟩,h4⟩:=h
   have h2:=Nat.eq_of_beq_eq_true h2
   have h3:=Nat.eq_of_beq_eq_true h3
   have hl:cs.length=off+(tsz a+tsz r):=hl
   cases hA with
   | @cons _ y _ ys g1 g2=>
    obtain⟨x,hx,hd⟩:=hq _ _ h1 _ _ _ g1
    obtain⟨z,hz,he⟩:=ycU hq (g::fs) (off+tsz a) r ys h4 (by omega) g2
    rw[h2,h3]at hx
    refine⟨(x,z),ydA hx (by rw[List.drop_drop];exact hz),?_⟩
    simp only[List.map_cons,Rows.uptoBulkAll]
    show dsz a x+dsz r z≤_
    omega
  |_=>simp[fOk]at h
theorem yuG{α β:Type}{R:α→β→Prop}:∀{l:List α} {m:List β},l.length=m.length→(∀(i:Nat) (a:α) (b:β),l[i]? = some a→m[i]? = some b→R a b)→A2 R l m
 |[],[],_,_=>.nil
 |[],_::_,h,_=>by cases h
 |_::_,[],h,_=>by cases h
 |a::l,b::m,h,hR=>.cons (hR 0 a b rfl rfl) (yuG (by simpa using h) fun i a b ha hb=>hR (i+1) a b (by simpa using ha) (by simpa using hb))
theorem ymA{e:Ty}:∀{xs:List (den e)} {cs ds:LV} {x:den e},@RL (den e) (rpD e) S cs xs→rep e S ds x→@RL (den e) (rpD e) S (cs++ds) (xs++[x])
 |[],cs,ds,x,h,hx=>by
  have h:cs=[]:=h
  subst h
  exact⟨ds,[],by simp,hx,rfl⟩
 |y::xs,cs,ds,x,h,hx=>by
  obtain⟨c,d,rfl,h1,h2⟩:=h
  exact⟨c,d++ds,by simp,h1,ymA h2 hx⟩
theorem xdQ{T E:TypeId}{e:Ty}{fuel:Nat}(hu:P.underlying T=some (.slice E))(hc:P.cellsOf E=tsz e)(hz:0<tsz e)(hq:∀(m:Nat) (cs:LV) (d:DataW H) (ps:List MemPlace),DataW.trod enc P W 0 (fun _=>true) true m E cs=some (d,ps)→∃x:den e,rep e (zlW W) cs x∧dsz e x≤Rows.uptoBulk d){cs:LV}{d:DataW H}{ps:List MemPlace}(hd:DataW.trod enc P W 0 (fun _=>true) true fuel T cs=some (d,ps)):
  ∃xs:List (den e),rep (.sl e) (zlW W) cs xs∧dsz (.sl e) xs≤Rows.uptoBulk d:=by
 rcases DataW.trod_slice hu hd with⟨rfl,h2⟩|⟨a,len,cap,elems,rest,m,rfl,rfl,h2,_,hlc,_,hel,hget,hrest,_⟩
 ·cases h2
  exact⟨[],⟨_,rfl,[],.inl ⟨⟨none,rfl⟩,rfl,rfl⟩,rfl⟩,Nat.le_refl _⟩
 ·cases h2
  by_cases hcap:cap=0
  ·subst hcap
   obtain rfl:len=0:=by omega
   refine⟨[],⟨_,rfl,[],.inl ⟨⟨some a,rfl⟩,rfl,rfl⟩,rfl⟩,?_⟩
   show 0+1≤_
   simp only[Rows.uptoBulk]
   omega
  have h0:∃us,W.cells? 0 a (P.cellsOf E)=some us:=by
   by_cases hl0:len=0
   ·subst hl0
    obtain⟨g1,g2⟩:=hrest rfl
    have g3:=g2 0 (by omega)
    rw[List.getElem?_eq_getElem (by omega:0<rest.length)]at g3
    obtain⟨us,hus,_⟩:=Option.bind_eq_some_iff.1 g3
    rw[show a.add ((0+0)*P.cellsOf E)=a by simp[Addr.add]]at hus
    exact⟨us,hus⟩
   ·have g3:=hget 0 (by omega)
    rw[List.getElem?_eq_getElem (by omega:0<elems.length)]at g3
    obtain⟨us,hus,_⟩:=Option.bind_eq_some_iff.1 g3
    rw[show a.add (0*P.cellsOf E)=a by simp[Addr.add]]at hus
    exact⟨us,hus⟩
  obtain⟨us,hus⟩:=h0
  obtain⟨_,hul,huc⟩:=World.cells?_some hus
  have hc0:=huc 0 (by omega)
  rw[show a.add 0=a by simp[Addr.add],List.getElem?_eq_getElem (by omega:0<us.length)]at hc0
  obtain⟨blk,off,spot⟩:=a
  obtain⟨cs,R,fz,hb,hsp,ho⟩:∃cs R fz,W.heap[blk]? = some (.cells cs R fz)∧spot=none∧off≤cs.size:=by
   unfold World.cell? at hc0
   dsimp only at hc0
   split at hc0
   ·rename_i c R fz hb
    cases spot with
    |some s=>simp at hc0
    |none=>
     rw[if_neg (by simp)]at hc0
     have:=(Array.getElem?_eq_some_iff.1 hc0).1
     exact⟨c,R,fz,hb,rfl,Nat.le_of_lt this⟩
   ·cases hc0
  subst hsp
  have ad:∀j,(⟨blk,off,none⟩:Addr).add j=⟨blk,off+j,none⟩:=fun j=>by simp[Addr.add]
  have each:∀i,i<len→∃y x,elems[i]? = some y∧rep e (zlW W) (piece cs.toList (off+i*tsz e) (tsz e)) x∧dsz e x≤Rows.uptoBulk y.1∧off+(i+1)*tsz e≤cs.toList.length:=fun i hi=>by
   have hg:=hget i hi
   obtain⟨y,hy⟩:∃y,elems[i]? = some y:=⟨_,List.getElem?_eq_getElem (by omega)⟩
   rw[hy]at hg
   obtain⟨us,hus,hg⟩:=Option.bind_eq_some_iff.1 hg
   obtain⟨_,hul,huc⟩:=World.cells?_some hus
   obtain⟨x,hx,hdx⟩:=hq m us y.1 y.2 hg
   rw[hc,ad]at huc
   rw[hc]at hul
   have hcell:∀j,j<tsz e→cs.toList[off+i*tsz e+j]? = us[j]?:=fun j hj=>by
    have:=huc j hj
    rw[show(⟨blk,off+i*tsz e,none⟩:Addr).add j=⟨blk,off+i*tsz e+j,none⟩ by simp[Addr.add]]at this
    simp only[World.cell?,hb,Option.isSome_none,if_neg (show ¬(false=true) by decide)]at this
    simpa using this
   have hlen:off+(i+1)*tsz e≤cs.toList.length:=by
    have h1:=hcell (tsz e-1) (by omega)
    rw[List.getElem?_eq_getElem (by omega:tsz e-1<us.length)]at h1
    have:=(List.getElem?_eq_some_iff.1 h1).1
    rw[Nat.add_mul];omega
   refine⟨y,x,hy,?_,hdx,hlen⟩
   have:piece cs.toList (off+i*tsz e) (tsz e)=us:=by
    apply List.ext_getElem?
    intro j
    rw[zaL,List.getElem?_take]
    by_cases hj:j<tsz e
    ·rw[if_pos hj,List.getElem?_drop];exact hcell j hj
    ·rw[if_neg hj,List.getElem?_eq_none (by omega)]
   rw[this];exact hx
  have key:∀k,k≤len→∃xs:List (den e),xs.length=k∧@RL (den e) (rpD e) (zlW W) (piece cs.toList off (k*tsz e)) xs∧(List.map (dsz e) xs).sum≤Rows.uptoBulkAll ((elems.take k).map (·.1)):=by
   intro k
   induction k with
   |zero=>intro _;exact⟨[],rfl,by simp[piece,RL],Nat.zero_le _⟩
   |succ k ih=>
    intro hk
    obtain⟨xs,h1,h2,h3⟩:=ih (by omega)
    obtain⟨y,x,g1,g2,g3,_⟩:=each k (by omega)
    refine⟨xs++[x],by simp[h1],?_,?_⟩
    ·have e2:piece cs.toList off ((k+1)*tsz e)=piece cs.toList off (k*tsz e)++piece cs.toList (off+k*tsz e) (tsz e):=by
      rw[zaL,zaL,zaL,Nat.add_mul,Nat.one_mul,List.take_add,List.drop_drop]
     rw[e2]
     exact ymA h2 g2
    ·rw[List.take_add_one,g1]
     simp only[Option.toList_some,List.map_append,List.map_cons,List.map_nil,List.sum_append,List.sum_cons,List.sum_nil,ygN,Rows.uptoBulkAll]
     omega
  obtain⟨xs,h1,h2,h3⟩:=key len (Nat.le_refl _)
  have hfit:off+len*tsz e≤cs.toList.length:=by
   rcases Nat.eq_zero_or_pos len with h0|h0
   ·subst h0;rw[Array.length_toList];omega
   ·obtain⟨_,_,_,_,_,h4⟩:=each (len-1) (by omega)
    rwa[Nat.sub_add_cancel h0]at h4
  refine⟨xs,⟨_,rfl,piece cs.toList off (len*tsz e),?_,h2⟩,?_⟩
  ·right
   refine⟨blk,off,cap,cs.toList,R,fz,?_,by rw[h1];exact hlc,by simpa[zlW]using hb,?_,?_⟩
   ·rw[h1]
   ·rw[h1];show _+_*(rpD e).sz≤_;rw[zeK];exact hfit
   ·rw[h1];show piece _ _ (_*(rpD e).sz)=_;rw[zeK]
  ·rw[List.take_of_length_le (by omega)]at h3
   show(List.map (dsz e) xs).sum+1≤_
   simp only[Rows.uptoBulk]
   omega
theorem ycO:∀(n:Nat) (T:TypeId) (t:Ty),tyOk P n T t=true→∀(fuel:Nat) (cs:LV) (d:DataW H) (ps:List MemPlace),DataW.trod enc P W 0 (fun _=>true) true fuel T cs=some (d,ps)→∃x:den t,rep t (zlW W) cs x∧dsz t x≤Rows.uptoBulk d
 |0,_,_,h,_,_,_,_,_=>by cases h
 |n+1,T,t,h,fuel,cs,d,ps,hd=>by
  unfold tyOk at h
  split at h
  ·rename_i k k' hu
   obtain⟨hk,_⟩:=Option.isSome_iff_exists.1 h
   obtain rfl:=hk.down
   obtain⟨m,rfl,he,hw⟩:=DataW.trod_int hu hd
   cases he
   exact⟨ofI _ m,(by show [Value.int _ m]=[.int _ (toI _ (ofI _ m))];rw[yzO hw]),Nat.le_refl 1⟩
  ·rename_i hu
   obtain⟨b,rfl,he⟩:=DataW.trod_bool hu hd
   cases he
   exact⟨b,rfl,Nat.le_refl 1⟩
  ·rename_i hu
   obtain⟨s,rfl,he,_⟩:=DataW.trod_string hu hd
   cases he
   exact⟨s.data.toList,(by show [Value.string s]=[str s.data.toList];simp[str]),Nat.le_refl _⟩
  ·rename_i E e hu
   rw[Bool.and_eq_true,Bool.and_eq_true]at h
   obtain⟨h1,h2,h3⟩:=h
   exact xdQ hu (Nat.eq_of_beq_eq_true h2) (by rw[zeW]at h3;simpa using h3) (fun m cs d ps hd=>ycO n E e h1 m cs d ps hd) hd
  ·rename_i fs hu
   rw[Bool.and_eq_true,Bool.and_eq_true]at h
   obtain⟨⟨h1,_⟩,h2⟩:=h
   have h1:=Nat.eq_of_beq_eq_true h1
   obtain⟨xs,fuel,rfl,he,hl,hxl,hm⟩:=DataW.trod_struct hu hd
   cases he
   obtain⟨x,hx,hb⟩:=ycU (S:=zlW W) (fuel:=fuel) (fun T' t' hq cs d ps=>ycO n T' t' hq fuel cs d ps) fs.toList 0 _ xs h2 (by rw[hl,h1];omega) (yuG (by simp[hxl]) fun i f y hf hy=>(hm i f (by simpa using hf)).trans hy)
   exact⟨x,by simpa using hx,by simp only[Rows.uptoBulk];omega⟩
  ·cases h
variable {b0:Nat}{T E:TypeId}{v:Value}
theorem ysR{n:Nat}{e:Ty}(hu:P.underlying T=some (.slice E))(he:tyOk P n E e=true)(hc:P.cellsOf E=tsz e)(hz:0<tsz e)(h:Value.okWide P W .any b0 T v){d:DataW H}{ps:List MemPlace}(hd:DataW.Trod enc P W 0 (fun _=>true) true T v d ps):
  ∃xs:List (den e),@RdS (den e) (rpD e) (zlW W) v xs∧dsz (.sl e) xs≤Rows.uptoBulk d:=by
 obtain⟨fuel,hf⟩:=hd
 have hv:=ok_slice hu h
 have hcells:v.cells.toList=[v]:=by
  rcases hv with rfl|⟨a,len,cap,rfl⟩<;>rfl
 rw[hcells]at hf
 rcases DataW.trod_slice hu hf with⟨h1,h2⟩|⟨a,len,cap,elems,rest,m,rfl,h1,h2,_,hlc,_,hel,hget,_,_⟩
 ·simp only[List.cons.injEq,and_true]at h1
  subst h1
  cases h2
  exact⟨[],⟨[],.inl ⟨⟨none,rfl⟩,rfl,rfl⟩,rfl⟩,Nat.le_refl _⟩
 ·simp only[List.cons.injEq,and_true]at h1
  subst h1
  cases h2
  obtain⟨hsp,cs,R,fz,hb,ho⟩:=ysU hu h
  obtain⟨blk,off,spot⟩:=a
  dsimp only at hsp hb ho
  subst hsp
  have ad:∀j,(⟨blk,off,none⟩:Addr).add j=⟨blk,off+j,none⟩:=fun j=>by simp[Addr.add]
  have each:∀i,i<len→∃y x,elems[i]? = some y∧rep e (zlW W) (piece cs.toList (off+i*tsz e) (tsz e)) x∧dsz e x≤Rows.uptoBulk y.1∧off+(i+1)*tsz e≤cs.toList.length:=fun i hi=>by
   have hg:=hget i hi
   obtain⟨y,hy⟩:∃y,elems[i]? = some y:=⟨_,List.getElem?_eq_getElem (by omega)⟩
   rw[hy]at hg
   obtain⟨us,hus,hg⟩:=Option.bind_eq_some_iff.1 hg
   obtain⟨_,hul,huc⟩:=World.cells?_some hus
   obtain⟨x,hx,hdx⟩:=ycO n E e he m us y.1 y.2 hg
   rw[hc,ad]at huc
   rw[hc]at hul
   have hcell:∀j,j<tsz e→cs.toList[off+i*tsz e+j]? = us[j]?:=fun j hj=>by
    have:=huc j hj
    rw[show(⟨blk,off+i*tsz e,none⟩:Addr).add j=⟨blk,off+i*tsz e+j,none⟩ by simp[Addr.add]]at this
    simp only[World.cell?,hb,Option.isSome_none,if_neg (show ¬(false=true) by decide)]at this
    simpa using this
   have hlen:off+(i+1)*tsz e≤cs.toList.length:=by
    have h1:=hcell (tsz e-1) (by omega)
    rw[List.getElem?_eq_getElem (by omega:tsz e-1<us.length)]at h1
    have:=(List.getElem?_eq_some_iff.1 h1).1
    rw[Nat.add_mul];omega
   refine⟨y,x,hy,?_,hdx,hlen⟩
   have:piece cs.toList (off+i*tsz e) (tsz e)=us:=by
    apply List.ext_getElem?
    intro j
    rw[zaL,List.getElem?_take]
    by_cases hj:j<tsz e
    ·rw[if_pos hj,List.getElem?_drop];exact hcell j hj
    ·rw[if_neg hj,List.getElem?_eq_none (by omega)]
   rw[this];exact hx
  have key:∀k,k≤len→∃xs:List (den e),xs.length=k∧@RL (den e) (rpD e) (zlW W) (piece cs.toList off (k*tsz e)) xs∧(List.map (dsz e) xs).sum≤Rows.uptoBulkAll ((elems.take k).map (·.1)):=by
   intro k
   induction k with
   |zero=>intro _;exact⟨[],rfl,by simp[piece,RL],Nat.zero_le _⟩
   |succ k ih=>
    intro hk
    obtain⟨xs,h1,h2,h3⟩:=ih (by omega)
    obtain⟨y,x,g1,g2,g3,_⟩:=each k (by omega)
    refine⟨xs++[x],by simp[h1],?_,?_⟩
    ·have e2:piece cs.toList off ((k+1)*tsz e)=piece cs.toList off (k*tsz e)++piece cs.toList (off+k*tsz e) (tsz e):=by
      rw[zaL,zaL,zaL,Nat.add_mul,Nat.one_mul,List.take_add,List.drop_drop]
     rw[e2]
     exact ymA h2 g2
    ·rw[List.take_add_one,g1]
     simp only[Option.toList_some,List.map_append,List.map_cons,List.map_nil,List.sum_append,List.sum_cons,List.sum_nil,ygN,Rows.uptoBulkAll]
     omega
  obtain⟨xs,h1,h2,h3⟩:=key len (Nat.le_refl _)
  have hfit:off+len*tsz e≤cs.toList.length:=by
   rcases Nat.eq_zero_or_pos len with h0|h0
   ·subst h0;rw[Array.length_toList];omega
   ·obtain⟨_,_,_,_,_,h4⟩:=each (len-1) (by omega)
    rwa[Nat.sub_add_cancel h0]at h4
  refine⟨xs,⟨piece cs.toList off (len*tsz e),?_,h2⟩,?_⟩
  ·right
   refine⟨blk,off,cap,cs.toList,R,fz,?_,by rw[h1];exact hlc,by simpa[zlW]using hb,?_,?_⟩
   ·rw[h1]
   ·rw[h1];show _+_*(rpD e).sz≤_;rw[zeK];exact hfit
   ·rw[h1];show piece _ _ (_*(rpD e).sz)=_;rw[zeK]
  ·rw[List.take_of_length_le (by omega)]at h3
   show(List.map (dsz e) xs).sum+1≤_
   simp only[Rows.uptoBulk]
   omega
def xbN(P:Program)(T:TypeId)(t:Ty):Bool:=match P.underlying T,t with
 |some (.slice E),.sl e=>tyOk P 8 E e&&(Nat.beq (P.cellsOf E) (tsz e)&&Nat.blt 0 (tsz e))
 |_,t=>tyOk P 8 T t
theorem xdR{t:Ty}(ha:xbN P T t=true)(h:Value.okWide P W .any b0 T v){d:DataW H}{ps:List MemPlace}(hd:DataW.Trod enc P W 0 (fun _=>true) true T v d ps):
  ∃x:den t,rep1 t (zlW W) v x∧dsz t x≤Rows.uptoBulk d:=by
 unfold xbN at ha
 split at ha
 ·rename_i E e hu
  rw[Bool.and_eq_true,Bool.and_eq_true]at ha
  obtain⟨h1,h2,h3⟩:=ha
  obtain⟨xs,g1,g2⟩:=ysR hu h1 (Nat.eq_of_beq_eq_true h2) (by rw[zeW]at h3;simpa using h3) h hd
  exact⟨xs,⟨v,rfl,g1⟩,g2⟩
 ·obtain⟨fuel,hf⟩:=hd
  obtain⟨x,hx,hb⟩:=ycO 8 T _ ha fuel _ _ _ hf
  refine⟨x,?_,hb⟩
  unfold rep1
  unfold tyOk at ha
  split at ha
  ·rename_i hu
   have hv:v.cells.toList=[v]:=by
    simp only[Value.okWide,Cell.okWide,Cell.ok]at h
    cases v<;>simp_all<;>rfl
   rw[hv]at hx
   rw[if_pos (show one (.i _)=true from rfl)];exact hx
  ·rename_i hu
   have hv:v.cells.toList=[v]:=by
    simp only[Value.okWide,Cell.okWide,Cell.ok]at h
    cases v<;>simp_all<;>rfl
   rw[hv]at hx
   rw[if_pos (show one .b=true from rfl)];exact hx
  ·rename_i hu
   have hv:v.cells.toList=[v]:=by
    simp only[Value.okWide,Cell.okWide,Cell.ok]at h
    cases v<;>simp_all<;>rfl
   rw[hv]at hx
   rw[if_pos (show one .s=true from rfl)];exact hx
  ·rename_i hu hno
   exact(hno _ _ hu rfl).elim
  ·rename_i fs hu _
   rw[Bool.and_eq_true,Bool.and_eq_true]at ha
   simp only[Value.okWide,hu]at h
   obtain⟨cs,rfl,_,_⟩:=h
   rw[if_neg (by simpa using ha.1.2)]
   exact⟨cs.toList,by simp,hx⟩
  ·cases ha
def posT:Ty→Bool
 |.un=>false
 |.pr a c=>posT a||posT c
 |_=>true
theorem ygD:∀{e:Ty},posT e=true→∀x:den e,1≤dsz e x
 |.i _,_,_=>Nat.le_refl 1
 |.b,_,_=>Nat.le_refl 1
 |.s,_,_=>Nat.le_add_left 1 _
 |.er,_,_=>Nat.le_refl 1
 |.sl _,_,_=>Nat.le_add_left 1 _
 |.mp _ _,_,_=>Nat.le_refl 1
 |.pr a c,h,x=>by
  show 1≤dsz a x.1+dsz c x.2
  have h:(posT a||posT c)=true:=h
  rw[Bool.or_eq_true]at h
  rcases h with h|h
  ·have:=ygD h x.1;omega
  ·have:=ygD h x.2;omega
theorem ykK{e:Ty}(he:posT e=true):∀xs:List (den e),xs.length+1≤dsz (.sl e) xs
 |[]=>Nat.le_refl 1
 |x::xs=>by
  have h1:=ygD he x
  have h2:xs.length+1≤(List.map (dsz e) xs).sum+1:=ykK he xs
  show(x::xs).length+1≤(List.map (dsz e) (x::xs)).sum+1
  simp only[List.length_cons,List.map_cons,List.sum_cons]
  omega
theorem xcY{t:Ty}{S:Mem}{E:List EI}{v:Value}{x:den t}(h:rep1 t S v x):VR S E (svOf t x) v:=ylS (l:=[t]) h
end
end Go.Proofs.YtopanhneegpgcaaGreatDoor.Am
namespace Go.Proofs.YtopanhneegpgcaaGreatDoor.Am
open Go Go.RowKit
theorem yuA{e:Ty}{x:den e}:∀{xs:List (den e)},x∈xs→dsz e x≤dsz (.sl e) xs
 |y::ys,h=>by
  show _≤(List.map (dsz e) (y::ys)).sum+1
  simp only[List.map_cons,List.sum_cons]
  rcases List.mem_cons.1 h with rfl|h
  ·omega
  ·have:dsz e x≤(List.map (dsz e) ys).sum+1:=yuA h
   omega
theorem yrT{e:Ty}(x:den e)(l:List (den e)):dsz (.sl e) (x::l)=dsz e x+dsz (.sl e) l:=by
 show(List.map (dsz e) (x::l)).sum+1=dsz e x+((List.map (dsz e) l).sum+1)
 rw[List.map_cons,List.sum_cons];omega
theorem yeH:∀(l:List L8),(∀t∈l,t.length≤1048576)→(zcJ l).length+8≤8*dsz (.sl .s) l
 |[],_=>by decide
 |t::l,h=>by
  have ih:=yeH l fun x hx=>h x (List.mem_cons_of_mem _ hx)
  have ht:=h t List.mem_cons_self
  have hd:=ztT 7 t.length (by decide) (by omega)
  have e1:dsz (.sl .s) (t::l:List L8)=t.length+1+dsz (.sl .s) l:=yrT (e:=.s) t l
  have e2:(zcJ (t::l)).length=(Lib.decDigits t.length).length+1+t.length+(zcJ l).length:=by
   show(Lib.decDigits t.length++58::(t++zcJ l)).length=_
   simp only[List.length_append,List.length_cons];omega
  rw[e1,e2];omega
theorem xdA{l:List L8}{k:Nat}(hk:dsz (.sl .s) l≤k):(∀t∈l,t.length≤k)∧l.length≤k:=by
 have h1:l.length+1≤dsz (.sl .s) l:=ykK (e:=.s) rfl l
 refine⟨fun t ht=>?_,by omega⟩
 have h2:dsz .s t≤dsz (.sl .s) l:=yuA (e:=.s) ht
 have h3:dsz .s t=t.length+1:=rfl
 omega
theorem yqE(v0:List L8)(v1:L8)(hk:dsz (.sl .s) v0+dsz .s v1≤1048576):zcL zaR v0 v1=some true:=by
 have h3:dsz .s v1=v1.length+1:=rfl
 have hs:=xdA (l:=v0) (k:=1048576) (by omega)
 have hf:=yeH v0 hs.1
 unfold zcL
 rw[show zaR.form v0=some (zcJ v0)from ykH v0 (by omega) (by omega),zaG,yrY v0 (by omega) (by omega),zaG]
 have hj:zcD zaR v0 (v0,true)=some (.inr ()):=by
  unfold zcD
  show Option.bind (zbU zaR v0 v0) _=_
  rw[yxL hs.2,zaG];rfl
 rw[hj,zaG]
 show Option.bind (zcC zaR v1) _=_
 rw[ypA (by omega),zaG]
 unfold txtP
 cases ht:txtF v1.length v1 with
 |none=>rfl
 |some l=>
  have hl:=yyH ht
  have he:=ycC ht
  show Option.bind (zaR.form l) _=_
  rw[show zaR.form l=some (zcJ l)from ykH l (by rw[he];omega) (by omega),zaG,he]
  rw[show(v1==v1)=true from beq_self_eq_true v1]
  rfl
end Go.Proofs.YtopanhneegpgcaaGreatDoor.Am
namespace Go.Proofs.YtopanhneegpgcaaGreatDoor
open Go Go.RowKit
section
open Go Go.RowKit Go.ChangeShapes Go.WideShapes Go.ChangeAt
attribute [local irreducible] Value.okWide
theorem yxR{W:World}(h:W.ShapedOpen Tryz.prog)(hL:laidMet Tryz.prog Rows.peopleRowUptoRow.laid W):∃G:List (Nat×Obj),Am.zmC G∧Am.GS G (zlW W):=by
 obtain⟨m,hm⟩:=Tryz.laysM219.s1_3 W h
 have hm:W.cell? ⟨0,0,none⟩=some (.int .i64 m):=hm
 have h0:∃c E fz,W.heap[0]? = some (.cells c E fz)∧c[0]? = some (.int .i64 m):=by
  unfold World.cell? at hm
  split at hm
  ·rename_i c E fz hb
   simp only[Option.isSome_none,if_neg (show ¬(false=true) by decide)]at hm
   exact⟨c,E,fz,hb,hm⟩
  ·cases hm
 obtain⟨c,E,fz,h1,h2⟩:=h0
 have hT := Lib.tabIs_of_head (P := Tryz.prog) (k := .u64) (zs := Lib.pow10Tab) (g := 3) (t := 298) (e := 249) (n := 20) (by kernel_rfl) (by kernel_rfl) (by kernel_rfl) (by kernel_rfl) (by kernel_rfl) (by kernel_rfl) (show laidMet Tryz.prog (("internal/strconv.uint64pow10", Lib.tabData .u64 Lib.pow10Tab) :: _) W from hL.tail.tail)
 have h3:∃T f,W.heap[3]? = some (.cells yoP.toArray T f):=by
  unfold Lib.TabIs World.var? at hT
  rw [show Tryz.prog.globalNamed "internal/strconv.uint64pow10" = some 3 by kernel_rfl, Option.bind_some] at hT
  split at hT
  ·rename_i cs T f hb
   cases hT
   exact⟨T,f,hb⟩
  ·cases hT
 obtain⟨T,f,h4⟩:=h3
 refine⟨[(0,.cells c E fz),(3,.cells yoP.toArray T f)],⟨fun S hS=>⟨⟨c,E,fz,m,hS _ (List.mem_cons_self ..),h2⟩,T,f,hS _ (List.mem_cons_of_mem _ (List.mem_cons_self ..))⟩⟩,fun p hp=>?_⟩
 rcases List.mem_cons.1 hp with rfl|hp
 ·exact h1
 ·rcases List.mem_cons.1 hp with rfl|hp
  ·exact h4
  ·cases hp
theorem ztQ(H:Type)(enc:TypeId×Value→H)(W:World)(base:Nat)(args:Array Value)(ds gs:List (DataW H))(before:List MemPlace)
  (hval:∀(j:Nat) t v,Tryz.f4.params[j]? = some t→args[j]? = some v→Value.okWide Tryz.prog W .any base t v)
  (hW:DataW.Whole enc Tryz.prog Tryz.f4.params.toList Rows.peopleRowSpec.vars false W args.toList ds gs before) (hk:Rows.uptoSmall H (ds++gs)=true) (hsh:W.ShapedOpen Tryz.prog) (hL:laidMet Tryz.prog Rows.peopleRowUptoRow.laid W):
  Calls Tryz.prog 4 args W fun e W'=>∃v,e = .returned v∧Rows.peopleRowSpec.post enc Tryz.prog Tryz.f4 false true false false W args v W':=by
 have hW':=hW
 obtain⟨p,q,hA0,hV,rfl,_,_⟩:=hW
 have hA:DataW.TrodAll enc Tryz.prog W 0 (fun _=>true) true Tryz.f4.params.toList args.toList ds p:=hA0
 rw[Tryz.params4]at hA hval
 obtain⟨v0,vs0,d0,ds0,p0,q0,hargs,rfl,rfl,t0,r0⟩:=trodAll_cons hA
 obtain⟨v1,vs1,d1,ds1,p1,q1,rfl,rfl,rfl,t1,r1⟩:=trodAll_cons r0
 obtain⟨rfl,rfl,rfl⟩:=trodAll_nil r1
 obtain rfl:args = #[v0,v1]:=by cases args;simp_all
 obtain⟨rfl,rfl⟩:=trodVars_none hV
 obtain⟨x0,e0,b0⟩:=Am.xdR (t:=(.sl .s)) (show Am.xbN Tryz.prog 22 (.sl .s)=true by kernel_rfl) (hval 0 22 v0 rfl rfl) t0
 obtain⟨x1,e1,b1⟩:=Am.xdR (t:=.s) (show Am.xbN Tryz.prog 9 .s=true by kernel_rfl) (hval 1 9 v1 rfl rfl) t1
 simp only[List.append_nil,Rows.uptoSmall,decide_eq_true_eq,Rows.uptoBulkAll]at hk
 obtain⟨G,hG,hGS⟩:=yxR hsh hL
 refine((Am.zzA (tabs:=G) (o:=Am.zaR)).ok (zlW W) W [v0,v1] (x0,x1) true hGS (ymX W) (.cons (Am.xcY e0) (.cons (Am.xcY e1) .nil)) (Am.yqE x0 x1 (by omega))).mono fun e W' ⟨hx,v,he,hr,_⟩=>?_
 have hr:[v]=[Value.bool true]:=hr
 rw[(List.cons.inj hr).1]at he
 subst he
 refine⟨_,rfl,yrJ (B:=4) (n:=2) (by kernel_rfl) rfl (by kernel_rfl) (by kernel_rfl) (by kernel_rfl) (by kernel_rfl) (fun ds hds=>?_) hW' hx⟩
 match ds,hds with
 |[x0,x1],_=>exact⟨rfl,rfl,rfl⟩
theorem yrU:ownKnob Tryz.prog.godebug=none:=by kernel_rfl
def yaM:DataW Unit→LV
 |.lit (.int k n)=>[.int k n]
 |.agg l=>go l
 |_=>[]
where go:List (DataW Unit)→LV
 |[]=>[]
 |d::l=>yaM d++go l
def znE(l:LV):Obj→Obj
 |.cells _ t frozen=>.cells l.toArray t frozen
 |o=>o
noncomputable def zwY(os:Os):World:={ World.holding Tryz.prog os ⟨#[],#[],[]⟩with heap:=(((((((((World.holding Tryz.prog os ⟨#[],#[],[]⟩).heap).modify 6 (znE (yaM Rows.laid_math_bits_deBruijn32tab))).modify 7 (znE (yaM Rows.laid_math_bits_deBruijn64tab))).modify 3 (znE (yaM Rows.laid_internal_strconv_uint64pow10))).modify 5 (znE (yaM Rows.laid_unicode_utf8_acceptRanges))).modify 2 (znE [.iface 312 (.pointer (some ⟨(World.holding Tryz.prog os ⟨#[],#[],[]⟩).heap.size+0,0,none⟩))])).modify 1 (znE [.iface 312 (.pointer (some ⟨(World.holding Tryz.prog os ⟨#[],#[],[]⟩).heap.size+1,0,none⟩))])).modify 4 (znE (yaM Go.Pinned.utf8First))) ++ #[.cells #[.string ⟨#[118,97,108,117,101,32,111,117,116,32,111,102,32,114,97,110,103,101]⟩] 314,.cells #[.string ⟨#[105,110,118,97,108,105,100,32,115,121,110,116,97,120]⟩] 314] }
theorem ztC(os:Os):laidMet Tryz.prog Rows.peopleRowUptoRow.laid ((zwY os).forCall (fun _ _=>0) ⟨#[],#[.slice none 0 0,.string ⟨#[]⟩],[]⟩).memory:=
 laidMet_of_run' 8 (by kernel_rfl) (by kernel_rfl)
theorem zxL(os:Os){H:Type}(enc:TypeId×Value→H):∃places,DataW.whole enc Tryz.prog ((zwY os).forCall (fun _ _=>0) ⟨#[],#[.slice none 0 0,.string ⟨#[]⟩],[]⟩).memory Tryz.f4.params.toList Rows.peopleRowSpec.vars false (#[.slice none 0 0,.string ⟨#[]⟩]:Array Value).toList 8=some ([.nil,.lit (.string [])],[],places):=
 ⟨[],by kernel_rfl⟩
set_option maxRecDepth 100000 in
theorem zvI(os:Os)(started:os.Started)(H:Type)(enc:TypeId×Value→H)(F:Stop.Interp):
  ReturnsInHanded {} Tryz.checked os 4 .any ((Rows.OpenSpec.upto Rows.peopleRowSpec).preRow enc Tryz.prog Tryz.f4 Rows.peopleRowUptoRow.domain false Rows.peopleRowUptoRow.laid) (((Rows.OpenSpec.upto Rows.peopleRowSpec).at F).post enc Tryz.prog Tryz.f4 false true false false):=by
 obtain⟨places,hx⟩:=zxL os enc
 refine returnsInHanded_of_row (C:=Tryz.checked) (s:=Rows.OpenSpec.upto Rows.peopleRowSpec) yrU started (by kernel_rfl) Tryz.func4
  (witness_row_at (enc:=enc) (C:=Tryz.checked) false (zwY os) #[.slice none 0 0,.string ⟨#[]⟩] rfl (by kernel_rfl) (by kernel_rfl) (by kernel_rfl)
   (OpenSpec.preRow_of_cond 8 hx (by kernel_rfl) (fun k hk=>by cases hk;kernel_rfl) (by kernel_rfl) (ztC os))) ?_
 intro W base args ds gs before hval hW _ hcond _ hL hsh _
 exact ztQ H enc W base args ds gs before hval hW (hcond _ rfl) hsh hL
set_option maxRecDepth 100000 in
set_option maxHeartbeats 40000000 in
theorem zyX:joinedFacts Tryz.pinned.checked.prog 4 Tryz.f4 (Rows.OpenSpec.upto Rows.peopleRowSpec).bare Rows.peopleRowUptoRow=true:=by
 simp only[joinedFacts,Bool.and_eq_true]
 repeat' refine And.intro ?_ ?_
 all_goals (as_aux_lemma=>kernel_rfl)
theorem ybZ:Rows.PeopleRowUptoSaid:=
 OpenClaim.holds_of_cond 4 Tryz.f4 rfl rfl rfl rfl rfl rfl rfl ⟨rfl,rfl,rfl,rfl,rfl⟩ rfl rfl rfl rfl rfl (by kernel_rfl) Tryz.func4 zyX
  (of_decide_eq_true (by kernel_rfl)) (by unfold Func.isWrapper;first|(rw[if_pos (by decide +kernel)];kernel_rfl)|(rw[if_neg (by decide +kernel)];exact⟨rfl,rfl⟩))
  (fun os started H enc _ F=>by rw[OpenClaim.pre_eq_preRow];exact zvI os started H enc F)
theorem zxV (f : FuncId) (fn : Func) (hf : Tryz.pinned.checked.prog.funcNamed "seneschal/seneschallaw12.PeopleRow" = some f) (hfn : Tryz.pinned.checked.prog.funcs[f]? = some fn) :
  true=Tryz.pinned.checked.prog.looks []∧∀(j:Nat) t,fn.params[j]? = some t→Tryz.pinned.checked.prog.wantsStandIn t=false:=by
 obtain rfl : f = 4 := osi ((show Tryz.prog.funcNamed "seneschal/seneschallaw12.PeopleRow" = some 4 by kernel_rfl).symm.trans hf) |>.symm
 obtain rfl:fn=Tryz.f4:=(osi (Tryz.func4.symm.trans hfn)).symm
 refine⟨by kernel_rfl,fun j t ht=>?_⟩
 rw[Tryz.params4]at ht
 have hm:t∈[22,9]:=by simpa using Array.mem_of_getElem? ht
 have hall:([22,9].all fun u=>!Tryz.prog.wantsStandIn u)=true:=by kernel_rfl
 exact(show Tryz.prog.wantsStandIn t=false by simpa using List.all_eq_true.1 hall t hm)
theorem peopleRow_said : Rows.PeopleRowUptoCardSaid :=
 Claim7.holds_tied_plain_at .later [] _ _ _ _ ybZ (fun _ h=>by cases h) (by kernel_rfl) (fun _ h=>by cases h) peopleRowUpto_row_tie rfl ⟨rfl,rfl⟩ (by kernel_rfl) rfl zxV (by kernel_rfl)
end
end Go.Proofs.YtopanhneegpgcaaGreatDoor
