/- Parts of one proof. Conditions: as each theorem says. -/
import Derived.KernelRfl
import Derived.Test.YtmbcolbbekbccaaGreatRows
import Derived.ProofKit
import Derived.OpenShut
import Derived.Carry
import Derived.JoinedCond
import Derived.ChangeMaps5
import Derived.Deep.SlicePairs
import Derived.Deep.DeepHandedRow
import Derived.Lib.LaidTab
import Derived.SevenTiedAt
import Derived.Test.YtmbcolbbekbccaaGreatQmO
open Array renaming mapM_eq_mapM_toList->fQ
open Bool renaming and_eq_true->aL,or_eq_true->cH
open List renaming any_eq_true->fL,append_assoc->aX,cons_append->bO,eq_nil_of_length_eq_zero->aU,ext_getElem?->aW,getElem?_append_left->aE,getElem?_append_right->aI,getElem?_eq_getElem->aG,getElem?_eq_some_iff->aC,getElem?_set_ne->aM,getElem?_set_self->aK,length_append->aF,length_cons->aO,mem_append->cG,mem_cons_self->bA,mem_filter->cY,mem_iff_getElem->gP,not_mem_nil->cJ,pairwise_iff_getElem->fR
open Nat renaming beq->aH,ble->bR,blt->cL,eq_of_beq_eq_true->aB,le_of_ble_eq_true->aQ,le_refl->aJ,lt_or_gt_of_ne->jA,mul_comm->dD,mul_le_mul_left->gW,zero_add->aP,zero_le->bX
open Option renaming bind->aA
open Go.Proofs.Tryz renaming prog->aD
namespace Go.Proofs.YtmbcolbbekbccaaGreat.Am
open Go Go.RowKit
section
variable {β:Type}{τ:TE}{Γ:CT}{η:HT}{N0 n:Nat}{P:Program}{B:Bas}{S:Mem}{E:List EI}{L:List Res}{σ:St}{m:FM}{w:World}{ops:Array Oper}{Q:Exit->Act->World->Prop}{rest:List Oper}{o:Oper}
def exQ:Ex->Exit
 |.normal=>.normal|.exit i=>.exit i|.ret=>.ret
theorem zoL{α γ:Type}{f:α->γ}{o:Option α}{y:γ}(h:mapO f o=some y):∃x,o=some x/\f x=y:=by
 cases o with
 |none=>cases h
 |some x=>cases h;exact⟨x,rfl,rfl⟩
theorem yqA{a:Option Nat}{e:Ex}(h:isEx a e=true):exOf a=e:=by
 cases a with
 |none=>cases e<;>first|rfl|cases h
 |some n=>
  cases e with
  |normal=>cases h
  |exit i=>
   have h1:=aB (zaU h);subst h1;have h2:=zbA h;cases hb:aH n 1000000 with
   |true=>rw[hb]at h2;cases h2
   |false=>simp only[exOf,hb,zF]
  |ret=>simp only[exOf,show aH n 1000000=true from h,zE]
theorem Agr.ev{D:List Nat}{m m':FM}(h:Agr D m m'){t:Nat}(ht:hasN D t=false):evO n m' (.tmp t)=evO n m (.tmp t):=by show(bif cL t n then look m' t else undef)=(bif cL t n then look m t else undef);rw[h t ht]
theorem zpJ{S':Mem}{E':List EI}{m':FM}{D:List Nat}(R:Rel n B S E L σ m w)(hS:Mem.le S S')(hA:Agr D m m'):∀(kp:List Nat) (t:Nat),VR S' E' (lkS (zqE D σ kp) t) (evO n m' (.tmp t))
 |[],_=>trivial|d::kp,t=>by
  unfold zqE;cases hb:!(hasN D d)&&ztU (lkS σ.sl d) with
  |false=>exact zpJ R hS hA kp t|true=>
   simp only[zE,lkS];cases hd:aH d t with
   |false=>exact zpJ R hS hA kp t|true=>
    have:=aB hd;subst this;have h1:=zaU hb
    have h2:hasN D d=false:=by cases hh:hasN D d with
     |true=>rw[hh]at h1;cases h1
     |false=>rfl
    rw[hA.ev h2];exact yjR (zbA hb) (R.sl d) hS
theorem ymU:∀(a b:List (Nat×SV)) (t:Nat),lkS (a++b) t=lkS a t∨lkS (a++b) t=lkS b t
 |[],_,_=>.inr rfl|(d,x)::a,b,t=>by
  simp only[bO,lkS];cases aH d t with
  |true=>exact .inl rfl|false=>exact ymU a b t
theorem RelV.app{V:Nat->Value}(R:RelV B S E L σ V w){l:List (Nat×SV)}(h:∀t,VR S E (lkS l t) (V t)):RelV B S E L (σ.app l) V w:=
 ⟨R.hs,R.lL,R.lE,R.obj,fun t=>by
  show VR S E (lkS (σ.sl++l) t) _;rcases ymU σ.sl l t with e|e
  ·rw[e];exact R.sl t
  ·rw[e];exact h t⟩
theorem ydJ:∀(os:List OSh) (l:List SV),Ver0 (zdL os l)
 |[],l=>fun i ver e T xs h=>by cases l<;>(simp[zdL]at h)
 |o::os,l=>by
  obtain⟨a,l',h,ha⟩:=zzO o os l;rw[h];intro i ver e T xs h;cases i with
  |zero=>simp at h;exact ha _ _ _ _ h|succ i=>exact ydJ os l' i ver e T xs (by simpa using h)
theorem get_put{s:Shp}{x:zcU s.tys}(h:s.get N0 σ=some x):Ver0 (s.put x).hp/\N0<=(s.put x).hp.length:=by refine⟨ydJ _ _,?_⟩;unfold Shp.get at h;obtain⟨h1,_⟩:=zaH h;show N0<=(zdL s.hp _).length;rw[zrZ];exact aQ (zaU h1)
theorem ztL{V:Nat->Value}(R:RelV B S E L σ V w){e:Ex}{kp:List (Nat×SV)}(hk:∀S' E',Mem.le S S'->∀t,VR S' E' (lkS kp t) (V t)):∀{outs:List (Option Nat×Shp)} {d:DS outs},inj N0 outs e σ=some d->∃S' E' L' σ',Mem.le S S'/\Pin N0 E E'/\RelV B S' E' L' σ' V w/\Ver0 σ'.hp/\N0<=σ'.hp.length/\∀{γ:Type} (k:Ex->St->Option γ),out kp outs d k=k e σ'
 |[],_,h=>by cases h
 |[a],d,h=>by obtain⟨h1,h2⟩:=zaH h;obtain⟨S',E',L',hS,hP,R'⟩:=zyQ R (fun l=>ziA l R) h2;obtain⟨h3,h4⟩:=get_put h2;refine⟨S',E',L',_,hS,hP,R'.app (hk S' E' hS),h3,h4,fun k=>?_⟩;show k (exOf a.1) _=_;rw[yqA h1]
 |a::b::l,d,h=>by
  have next:mapO Sum.inr (inj N0 (b::l) e σ)=some d->∃S' E' L' σ',Mem.le S S'/\Pin N0 E E'/\RelV B S' E' L' σ' V w/\Ver0 σ'.hp/\N0<=σ'.hp.length/\∀{γ:Type} (k:Ex->St->Option γ),out kp (a::b::l) d k=k e σ':=fun h=>by obtain⟨x,h1,rfl⟩:=zoL h;exact ztL R hk (outs:=b::l) h1
  simp only[inj]at h;cases hb:isEx a.1 e with
  |true=>
   rw[hb]at h;simp only[zE]at h;split at h
   ·rename_i x h1;cases h;obtain⟨S',E',L',hS,hP,R'⟩:=zyQ R (fun l=>ziA l R) h1;obtain⟨h3,h4⟩:=get_put h1;refine⟨S',E',L',_,hS,hP,R'.app (hk S' E' hS),h3,h4,fun k=>?_⟩;show k (exOf a.1) _=_;rw[yqA hb]
   ·exact next h
  |false=>rw[hb]at h;exact next h
theorem HS.nil(H:HS B S w L)(sz:Nat)(T:TypeId):HS B S w (.osl (.slice none 0 0) 0 sz [] [] T::L):=by
 refine⟨H.fr,H.sub,H.keep,fun i q h=>?_,fun i q b h hb=>?_,fun i j q s b hi hj hq hs=>?_⟩
 ·cases i with
  |zero=>cases h;exact .inl ⟨rfl,rfl,rfl,rfl⟩
  |succ i=>exact H.own _ q h
 ·cases i with
  |zero=>cases h;cases hb
  |succ i=>exact H.old _ q b h hb
 ·cases i with
  |zero=>cases hi;cases hq
  |succ i=>
   cases j with
   |zero=>cases hj;cases hs
   |succ j=>rw[H.inj i j q s b hi hj hq hs]
theorem nl_ok{c:SV}{u:Value}(hc:isNl c=true)(hx:VR S E c u):Same S (.slice none 0 0) u 0/\u.oneCell'=true:=by
 cases c with
 |nils=>have hx:u = .slice none 0 0:=hx;subst hx;exact⟨.inl rfl,rfl⟩|emp=>have hx:VB S E .emp u:=hx;obtain⟨h1,a,rfl⟩:=hx;exact⟨.inr ⟨rfl,rfl,h1,a,rfl⟩,rfl⟩
 |_=>cases hc
theorem yxW(R:Rel n B S E L σ m w){c:SV}{u:Value}(hc:isNl c=true)(hx:VR S E c u)(e:Ty)(T:TypeId):Rel n B S (E++[.osl 0 u (tsz e)]) (L++[.osl (.slice none 0 0) 0 (tsz e) [] [] T]) ⟨σ.sl,σ.hp++[.osl 0 e T []]⟩ m w/\VC S (E++[.osl 0 u (tsz e)]) (.own σ.hp.length 0) u:=by obtain⟨h1,h2⟩:=nl_ok hc hx;refine⟨R.snoc (HS.nil R.hs _ _) ⟨.slice none 0 0,u,[],[],rfl,rfl,rfl,h1⟩,h2,.osl 0 u (tsz e),by rw[<-R.lE];simp,fun r v s he=>?_⟩;cases he;exact⟨aJ 0,fun _=>rfl⟩
theorem mk1_ok(R:Rel n B S E L σ m w)(x:Mk):∃S' E' L',Mem.le S S'/\ELe E E'/\Rel n B S' E' L' (mk1 σ x) m w:=by
 have same:∃S' E' L',Mem.le S S'/\ELe E E'/\Rel n B S' E' L' σ m w:=⟨S,E,L,Mem.le_refl _,ELe.refl _,R⟩;cases x with
 |sl d e T=>
  simp only[mk1];cases hn:isNl (lkS σ.sl d) with
  |false=>exact same|true=>obtain⟨R1,h1⟩:=yxW R hn (R.sl d) e T;exact⟨S,_,_,Mem.le_refl _,ELe.push E _,R1.re (d:=d) (VR.ofC h1)⟩
 |cell d i e T=>
  simp only[mk1];split
  ·split
   ·rename_i id off hp _ T' cs hc;split
    ·rename_i c hi;cases hn:isNl c with
     |false=>exact same|true=>
      obtain⟨r0,e0,h1,h2,b,us,rfl,rfl,h3⟩:=R.objN hc;obtain⟨u,h4,h5⟩:=h3.at hi;obtain⟨R1,h6⟩:=yxW R hn (VR.ofC h5) e T;have hlt:id<σ.hp.length:=by rw[<-R.lE];exact(aC.1 h2).1
      have h2':(E++[EI.osl 0 u (tsz e)])[id]? = some (.blk b):=by rw[aE (by rw[R.lE];exact hlt)];exact h2
      have h1':lkR (L++[Res.osl (.slice none 0 0) 0 (tsz e) [] [] T]) id=some (.blk b us T'):=by rw[zbC,aE (by rw[R.lL];exact hlt),<-zbC];exact h1
      have hst:stR (L++[Res.osl (.slice none 0 0) 0 (tsz e) [] [] T]) id (.blk b us T')=L++[Res.osl (.slice none 0 0) 0 (tsz e) [] [] T]:=by
       rw[zlU];apply aW;intro j;by_cases hj:id=j
       ·subst hj;rw[zbC]at h1';rw[aK (aC.1 h1').1,h1']
       ·rw[aM hj]
      have h7:A2 (VC S (E++[EI.osl 0 u (tsz e)])) (setN cs i (.own σ.hp.length 0)) us:=by
       have h8:A2 (VC S (E++[EI.osl 0 u (tsz e)])) cs us:=h3.imp fun _ _ h=>h.mono (Mem.le_refl S) (ELe.push E _);have h9:=A2.set (a:=SV.own σ.hp.length 0) h6 i h8;have h10:us.set i u=us:=by
        apply aW;intro j;by_cases hj:i=j
        ·subst hj;rw[aK (aC.1 h4).1,h4]
        ·rw[aM hj]
       rw[zeI];rw[h10]at h9;exact h9
      exact⟨S,_,_,Mem.le_refl _,ELe.push E _,R1.upd1 (r':=.blk b us T') h2' (by rw[hst];exact R1.hs) ⟨b,us,rfl,rfl,h7⟩⟩
    ·exact same
   ·exact same
  ·exact same
 |qu d=>
  simp only[mk1];split
  ·rename_i id ver hv;split
   ·rename_i ver' e T x0 xs hc;cases hb:aH ver ver' with
    |false=>exact same|true=>
     have:=aB hb;subst this;obtain⟨r0,e0,h1,h2,v,v',cs,rs,rfl,rfl,h3,hsm⟩:=R.objN hc;obtain rfl:=hsm.eq (i:=0) (by simp);obtain⟨b,c,fz,k1,k2,k3⟩:=zyR R.hs h1 (i:=0) (by simp);subst k1;have hc2:(x0::xs).length<=c:=by
      rcases R.hs.own id _ h1 with⟨h,_⟩|⟨b',c',fz',h,h4,_⟩
      ·cases h
      ·injection h with _ _ h;rw[h];exact h4
     have hst:stR L id (.osl (sl b 0 (x0::xs).length c) (x0::xs).length (tsz e) cs rs T)=L:=by
      rw[zlU];apply aW;intro j;by_cases hj:id=j
      ·subst hj;rw[zbC]at h1;rw[aK (aC.1 h1).1,h1]
      ·rw[aM hj]
     exact⟨S,_,_,Mem.le_refl _,ELe.refl _,R.upd1 (o':=.qu ver e T (x0::xs)) (r':=.osl (sl b 0 (x0::xs).length c) (x0::xs).length (tsz e) cs rs T) h2 (by rw[hst];exact R.hs) ⟨b,c,0,[],cs,rs,0,c,by rw[aP];rfl,rfl,by simp,h3,hc2,.inl ⟨by rw[Nat.zero_mul],by rw[aP]⟩⟩⟩
   ·exact same
  ·exact same
 |fz d=>
  simp only[mk1];split
  ·rename_i id v h;exact yoI R id
  ·exact same
theorem zrM:∀(l:List Mk) {σ:St} {S:Mem} {E:List EI} {L:List Res} (_:Rel n B S E L σ m w),∃S' E' L',Mem.le S S'/\ELe E E'/\Rel n B S' E' L' (zqF σ l) m w
 |[],_,S,E,L,R=>⟨S,E,L,Mem.le_refl _,ELe.refl _,R⟩|x::l,_,_,_,_,R=>by obtain⟨S1,E1,L1,h1,h2,R1⟩:=mk1_ok R x;obtain⟨S2,E2,L2,h3,h4,R2⟩:=zrM l R1;exact⟨S2,E2,L2,Mem.le_trans h1 h3,h2.trans h4,R2⟩
theorem ylU{K V:Ty}(hK:kOk K=true){es:List (den K×den V)}{ents:List MapEntry}(hM:MR S K V es ents){a c:MapEntry}(ha:a∈ents)(hc:c∈ents):a.key=c.key↔a.born=c.born:=by
 obtain⟨l,hl,hA⟩:=hM.perm;have hne:l.Pairwise fun p q=>keq K p.1 q.1=false:=(hl.pairwise_iff fun h=>ztO hK h).2 hM.ne;obtain⟨i,hi,rfl⟩:=gP.1 ha;obtain⟨j,hj,rfl⟩:=gP.1 hc;have hlen:=hA.len;constructor
 ·intro h;by_cases hij:i=j
  ·subst hij;rfl
  ·exfalso;obtain⟨p,hp,hp2⟩:=A2.at_r hA (aG hi);obtain⟨q,hq,hq2⟩:=A2.at_r hA (aG hj);have h2:p.1=q.1:=zzI hK (by rw[<-zrU hK hp2.1,<-zrU hK hq2.1,h]);have h3:∀{i j:Nat} {p q:den K×den V},i<j->l[i]? = some p->l[j]? = some q->p.1=q.1->False:=fun {i j p q} hij hp hq h2=>by obtain⟨h4,rfl⟩:=aC.1 hp;obtain⟨h5,rfl⟩:=aC.1 hq;have:=fR.1 hne i j h4 h5 hij;rw[h2]at this;rw[(zhF hK).2 rfl]at this;cases this
   rcases jA hij with h4|h4
   ·exact h3 h4 hp hq h2
   ·exact h3 h4 hq hp h2.symm
 ·intro h;by_cases hij:i=j
  ·subst hij;rfl
  ·exfalso;have h4:∀{i j:Nat} (hi:i<ents.length) (hj:j<ents.length),i<j->ents[i].born=ents[j].born->False:=fun {i j} hi hj hij h=>by have:=fR.1 hM.nd i j (by simpa using hi) (by simpa using hj) hij;simp only[List.getElem_map]at this;exact this h
   rcases jA hij with h5|h5
   ·exact h4 hi hj h5 h
   ·exact h4 hj hi h5 h.symm
theorem yqG{S R:Type}{f:S->List (Option (S⊕R))}{s:S}{r:R}(h:rngA f s=some r):∃n,Rng f n s r:=by
 unfold rngA at h;split at h
 ·rename_i hh;cases h;exact hh.choose_spec
 ·cases h
theorem yuW{α γ:Type}{l:List α}{d:γ}{f:α->γ}{p:α}(h:p∈l):f p∈rngL l d f:=by
 cases l with
 |nil=>cases h
 |cons x l=>exact List.mem_map.2 ⟨p,h,rfl⟩
theorem xdY{γ:Type}{d t:Nat}{g0:St->Option γ}{Z:Option γ->Prop}(R:Rel n B S E L σ m w)(hZ:¬Z none)(hz:∀o∈yvX n σ d t g0,Z o){ty:TypeId}{pos:String}{aft:Array Edge}:
  outcome P (fun v w'=>∃σ' L',Z (g0 σ')/\Rel n B S E L' σ' ((d,v)::m) w') ((execOp (evO n m) ⟨some d,.next (.tmp t) false,ty,pos,aft,none⟩).run P w):=by
 have bad:∀{X:Prop},(∀o,o∈[(none:Option γ)]->Z o)->X:=fun h=>absurd (h none bA) hZ;unfold yvX at hz;split at hz
 ·rename_i i ht;split at hz
  ·rename_i mid gn K cur left hi;split at hz
   ·rename_i g' K' V es hm;split at hz
    ·rename_i hK _;subst hK;cases hb:aH gn g'&&cL d n with
     |false=>rw[hb]at hz;exact bad hz|true=>
      rw[hb]at hz;simp only[zE,zhP]at hz;have hd:cL d n=true:=zbA hb;have hg:=aB (zaU hb);subst hg;obtain⟨r0,e0,k1,k2,b,mb,ck,seen,rfl,rfl,hK,e1,k3,k4⟩:=R.objN hi;obtain⟨r1,e2,k5,k6,b2,ents,ck2,rfl,rfl,hM,hlt⟩:=R.objN hm;rw[k6]at k3;cases k3;obtain⟨_,k7⟩:=k4 _ _ _ _ rfl;obtain⟨rfl,rfl,k8⟩:=k7 rfl;obtain⟨l,hl,hA⟩:=hM.perm;have hv:=R.sl t;rw[ht]at hv;obtain⟨b3,hv,e3,q1,q2⟩:=hv;rw[k2]at q1;cases q1;have:=q2 _ rfl;subst this;have hh:w.heap[b]? = some (.mapIter (some b2) ck2 seen ck2):=R.hs.own i _ k1;have hh2:w.heap[b2]? = some (.map ents.toArray ck2):=R.hs.own mid _ k5;have exec:∀{u w'},(Instr.next (.pointer (some ⟨b,0,none⟩)) false ty).run P w = .ok u w'->(execOp (evO n m) ⟨some d,.next (.tmp t) false,ty,pos,aft,none⟩).run P w = .ok (.value u) w':=fun {u w'} h=>by have hv:evO n m (.tmp t) = .pointer (some ⟨b,0,none⟩):=hv;simp[execOp,hv,h,Result.andThen]
      rcases run_next_at (P:=P) w ty b b2 ck2 ck2 seen ents.toArray ck2 hh hh2 (by simpa using hlt) (aJ _)with⟨h0,hrun⟩|⟨en,hen,w1,hw1,hrun⟩
      ·rw[exec hrun];have hnil:rngC (keq K) es left=[]:=by
        rw[rngC,List.filter_eq_nil_iff];intro p hp hany;obtain⟨k,hk,hke⟩:=fL.1 hany;obtain⟨en,hen,h1⟩:=A2.mem_l hA p (hl.mem_iff.2 hp);have h2:en.born∉seen:=fun h=>((k8 en hen).1.1 h) k hk (by rw[zrU hK h1.1,(zhF hK).1 hke]);have:en∈(leftOf ents.toArray seen):=by simp[leftOf,hen,h2]
        have h3:=Array.size_pos_of_mem this;omega
       rw[hnil]at hz;exact⟨_,_,hz _ bA,R.put (x:=.tup [.v .b false]) ⟨[.bool false],rfl,.cons (show rep .b S [.bool false] false from rfl) .nil⟩ hd⟩
      ·rw[exec hrun];have hen':en∈ents/\en.born∉seen:=by simpa[leftOf]using hen
       obtain⟨p,hp,hpe⟩:=A2.mem_r hA en hen'.1;have hkey:=zrU hK hpe.1;have hex:∃k∈left,en.key=kv K k:=by refine Classical.byContradiction fun hno=>hen'.2 ((k8 en hen'.1).1.2 fun k hk h=>hno ⟨k,hk,h⟩)
       obtain⟨k,hk,hkk⟩:=hex;have hpk:p.1=k:=zzI hK (hkey.symm.trans hkk);have hpm:p∈rngC (keq K) es left:=by rw[rngC,cY];exact⟨hl.mem_iff.1 hp,fL.2 ⟨k,hk,(zhF hK).2 hpk⟩⟩
       have h1:=hz _ (yuW (d:=g0 (σ.put d (.tup [.v .b false]))) (f:=fun p=>g0 ⟨(d,.tup [.v .b true,svOf K p.1,svOf V p.2])::σ.sl,setN σ.hp i (.it mid gn K (some p.1) (rngD (keq K) left p.1))⟩) hpm);have H1:HS B S w1 L:=by
        rcases hw1 with rfl|rfl
        ·exact R.hs
        ·exact R.hs.drew
       have hh1:w1.heap=w.heap:=by rcases hw1 with rfl|rfl<;>rfl
       have hlt1:b<w1.heap.size:=by rw[hh1];exact lt_of_heap hh
       have H2:HS B S (Go.ChangeMaps.setBlock w1 b (.mapIter (some b2) ck2 (seen.push en.born) ck2)) (stR L i (.obj b (.mapIter (some b2) ck2 (seen.push en.born) ck2))):=by
        refine H1.upd k1 (by simp[Go.ChangeMaps.setBlock]) rfl rfl rfl (fun j hj hne=>?_) ?_ fun b' hb'=>.inl hb'
        ·have:j≠b:=fun e=>hne (by rw[e];rfl);simp[Go.ChangeMaps.setBlock,Ne.symm this]
        ·show((Go.ChangeMaps.setBlock w1 b _).heap)[b]? = _;simp[Go.ChangeMaps.setBlock,hlt1]
       have hA1:=hA
       have R1:=R.upd1 (o':=.it mid gn K (some p.1) (rngD (keq K) left p.1)) k2 H2 ⟨b,b2,ck2,seen.push en.born,rfl,rfl,hK,_,k6,fun g2 b4 c2 es2 he=>by
        cases he;refine⟨aJ _,fun _=>⟨rfl,rfl,fun e4 he4=>⟨?_,fun c hc=>?_⟩⟩⟩
        ·have hkb:e4.key=en.key↔e4.born=en.born:=ylU hK hM he4 hen'.1;rw[Array.mem_push,(k8 e4 he4).1];constructor
         ·rintro(h|h) k' hk'
          ·exact h k' (cY.1 hk').1
          ·rw[hkb.2 h,hkey];intro h5;have:=(cY.1 hk').2;rw[(zhF hK).2 (zzI hK h5).symm]at this;cases this
         ·intro h;by_cases h5:e4.born=en.born
          ·exact .inr h5
          ·refine .inl fun k' hk' h6=>h k' (cY.2 ⟨hk',?_⟩) h6;rw[Bool.not_eq_true',zkT hK];intro h7;exact h5 (hkb.1 (by rw[h6,h7,hkey]))
        ·cases hc;rw[<-hkey,Array.back?_push]
         exact(ylU hK hM he4 hen'.1).trans ⟨fun h=>by rw[h],fun h=>(osi h).symm⟩⟩
       refine⟨_,_,h1,R1.put (x:=.tup [.v .b true,svOf K p.1,svOf V p.2]) ⟨[.bool true,en.key,en.val],rfl,.cons (show rep .b S [.bool true] true from rfl) (.cons (zmA hpe.1) (.cons (zmA hpe.2) .nil))⟩ hd⟩
    ·exact bad hz
   ·exact bad hz
  ·exact bad hz
 ·exact bad hz
def Good(P:Program)(N0 n:Nat)(B:Bas)(c:Code){β:Type}(rn:(Ex->St->Option β)->Option β)(S:Mem)(E:List EI)(m:FM)(w:World):Prop:=
 ∀(k:Ex->St->Option β) (r:β) (Q:Exit->Act->World->Prop),rn k=some r->(∀e σ' S' E' L' m' w',k e σ'=some r->Mem.le S S'->Pin N0 E E'->Agr (ziD c) m m'->Rel n B S' E' L' σ' m' w'->Q (exQ e) (fr n m') w')->c.wp P Q (fr n m) w
theorem zlK{α γ:Type}{o:Option α}{f:α->Option γ}{r:γ}(h:aA o f=some r):∃x,o=some x/\f x=some r:=bnd h
theorem zoF(hm:P.follows .mixedOrders=true)(hτ:TEok P τ)(hΓ:CTok P Γ B):∀(c:Code) {β:Type} {σ:St} {S:Mem} {E:List EI} {L:List Res} {m:FM} {w:World},Rel n B S E L σ m w->Good P N0 n B c (β:=β) (run N0 n τ Γ η c σ) S E m w
 |.skip,_,σ,S,E,L,m,w,R,k,r,Q,h,hQ=>wp_skip (hQ .normal _ _ _ _ _ _ h (Mem.le_refl _) (Pin.refl _ _) (Agr.refl _ _) R)|.exit id,_,σ,S,E,L,m,w,R,k,r,Q,h,hQ=>wp_exit (hQ (.exit id) _ _ _ _ _ _ h (Mem.le_refl _) (Pin.refl _ _) (Agr.refl _ _) R)|.ret,_,σ,S,E,L,m,w,R,k,r,Q,h,hQ=>wp_ret (hQ .ret _ _ _ _ _ _ h (Mem.le_refl _) (Pin.refl _ _) (Agr.refl _ _) R)|.region id ops d,_,σ,S,E,L,m,w,R,k,r,Q,h,hQ=>by
  obtain⟨ops⟩:=ops;cases d with
  |true=>exact yoG hm hτ hΓ R h (fun σ' S' E' L' m' w' h1 h2 h3 h4 R1=>hQ .normal _ _ _ _ _ _ h1 h2 (Pin.of h3) h4 R1)|false=>exact wp_region_lit (zvD hτ hΓ (fun σ' S' E' L' m' w' h1 h2 h3 h4 R1=>hQ .normal _ _ _ _ _ _ h1 h2 (Pin.of h3) h4 R1) ops (fun _ h=>h) (Mem.le_refl _) (ELe.refl _) (Agr.refl _ _) R h)
 |.cond c a b,_,σ,S,E,L,m,w,R,k,r,Q,h,hQ=>by
  simp only[run]at h;split at h
  ·rename_i t hc;have hv:evO n m c = .bool t:=vB (zbO R hc);refine zcR hv (fun ht=>?_) (fun ht=>?_)
   ·subst ht;exact zoF hm hτ hΓ a R k r Q h (fun e σ' S' E' L' m' w' h1 h2 hP h3 R1=>hQ e σ' S' E' L' m' w' h1 h2 hP h3.l R1)
   ·subst ht;exact zoF hm hτ hΓ b R k r Q h (fun e σ' S' E' L' m' w' h1 h2 hP h3 R1=>hQ e σ' S' E' L' m' w' h1 h2 hP h3.r R1)
  ·cases h
 |.seq a b,_,σ,S,E,L,m,w,R,k,r,Q,h,hQ=>by
  have next:∀e σ' S' E' L' m' w',nx k (fun σ=>run N0 n τ Γ η b σ k) e σ'=some r->Mem.le S S'->Pin N0 E E'->Agr (ziD a) m m'->Rel n B S' E' L' σ' m' w'->Exit.then (b.wp P Q) Q (exQ e) (fr n m') w':=fun e σ' S' E' L' m' w' h1 hS hP hA R1=>by
   cases e with
   |normal=>exact zoF hm hτ hΓ b R1 k r Q h1 (fun e σ' S' E' L' m' w' h1 h2 hP2 h3 R1=>hQ e σ' S' E' L' m' w' h1 (Mem.le_trans hS h2) (hP.trans hP2) ((Agr.l hA).trans (Agr.r h3)) R1)|exit i=>exact hQ (.exit i) _ _ _ _ _ _ h1 hS hP hA.l R1|ret=>exact hQ .ret _ _ _ _ _ _ h1 hS hP hA.l R1
  simp only[run]at h;refine wp_seq ?_;split at h
  ·rename_i mk kp outs hj;obtain⟨d,h1,h2⟩:=zlK h;obtain⟨S0,E0,L0,hS0,hE0,R0⟩:=zrM mk R;refine zoF hm hτ hΓ a R0 (inj N0 outs) d _ h1 fun e σ' S' E' L' m' w' h3 hS hP hA R1=>?_;obtain⟨S2,E2,L2,σ2,hS2,hP2,R2,_,_,h4⟩:=ztL R1 (kp:=zqE (ziD a) (zqF σ mk) kp) (fun S'' E'' hS'' t=>zpJ R0 (Mem.le_trans hS hS'') hA kp t) h3;rw[h4]at h2;exact next e σ2 _ _ _ _ _ h2 (Mem.le_trans hS0 (Mem.le_trans hS hS2)) ((Pin.of hE0).trans (hP.trans hP2)) hA R2
  ·exact zoF hm hτ hΓ a R _ r _ h next
 |.block id b,_,σ,S,E,L,m,w,R,k,r,Q,h,hQ=>by
  have next:∀e σ' S' E' L' m' w',blk id k e σ'=some r->Mem.le S S'->Pin N0 E E'->Agr (ziD b) m m'->Rel n B S' E' L' σ' m' w'->Exit.inBlock id Q (exQ e) (fr n m') w':=fun e σ' S' E' L' m' w' h1 hS hP hA R1=>by
   cases e with
   |normal=>exact hQ .normal _ _ _ _ _ _ h1 hS hP hA R1|ret=>exact hQ .ret _ _ _ _ _ _ h1 hS hP hA R1|exit i=>
    simp only[blk]at h1;cases hb:aH i id with
    |true=>rw[hb]at h1;have:=aB hb;subst this;exact zdK (hQ .normal _ _ _ _ _ _ h1 hS hP hA R1)|false=>rw[hb]at h1;exact yrY hb (hQ (.exit i) _ _ _ _ _ _ h1 hS hP hA R1)
  simp only[run]at h;refine wp_block ?_;split at h
  ·rename_i mk kp outs hj;obtain⟨d,h1,h2⟩:=zlK h;obtain⟨S0,E0,L0,hS0,hE0,R0⟩:=zrM mk R;refine zoF hm hτ hΓ b R0 _ d _ h1 fun e σ' S' E' L' m' w' h3 hS hP hA R1=>?_;have fin:∀e',inj N0 outs e' σ'=some d->Q (exQ e') (fr n m') w':=fun e' h3=>by obtain⟨S2,E2,L2,σ2,hS2,hP2,R2,_,_,h4⟩:=ztL R1 (kp:=zqE (ziD b) (zqF σ mk) kp) (fun S'' E'' hS'' t=>zpJ R0 (Mem.le_trans hS hS'') hA kp t) h3;rw[h4]at h2;exact hQ e' σ2 _ _ _ _ _ h2 (Mem.le_trans hS0 (Mem.le_trans hS hS2)) ((Pin.of hE0).trans (hP.trans hP2)) hA R2
   cases e with
   |normal=>exact fin .normal h3|ret=>exact fin .ret h3|exit i=>
    simp only[blk]at h3;cases hb:aH i id with
    |true=>rw[hb]at h3;have:=aB hb;subst this;exact zdK (fin .normal h3)|false=>rw[hb]at h3;exact yrY hb (fin (.exit i) h3)
  ·exact zoF hm hτ hΓ b R _ r _ h next
 |.loop b,_,σ,S,E,L,m,w,R,k,r,Q,h,hQ=>by
  simp only[run]at h;split at h
  ·rename_i mk s kp outs hj;split at h
   ·rename_i s0 hs0;obtain⟨d,h1,h2⟩:=zlK h;obtain⟨S0,E0,L0,hS0,hE0,R0⟩:=zrM mk R;obtain⟨S1,E1,L1,hS1,hP1,R1⟩:=zyQ R0 (fun l=>ziA l R0) hs0;have hQ:∀e σ' S' E' L' m' w',k e σ'=some r->Mem.le S0 S'->Pin N0 E0 E'->Agr (ziD b) m m'->Rel n B S' E' L' σ' m' w'->Q (exQ e) (fr n m') w':=fun e σ' S' E' L' m' w' h1 h2 h3 h4 h5=>hQ e σ' S' E' L' m' w' h1 (Mem.le_trans hS0 h2) ((Pin.of hE0).trans h3) h4 h5;clear hS0 hE0 R;generalize zqF σ mk=σ at *;refine yzN (fun g a w=>∃m' x S' E' L',a=fr n m'/\Mem.le S0 S'/\Pin N0 E0 E'/\Agr (ziD b) m m'/\Rel n B S' E' L' (s.put x) m' w/\zoT (fun x=>run N0 n τ Γ η b ((s.put x).app (zqE (ziD b) σ kp)) (nx (fun e σ=>mapO Sum.inr (inj N0 outs e σ)) fun σ=>mapO Sum.inl (s.get N0 σ))) g x=some d) FU ⟨m,s0,S1,E1,L1,rfl,hS1,hP1,Agr.refl _ _,R1,h1⟩ ?_;rintro g a w ⟨m2,x,S2,E2,L2,rfl,hS2,hP2,hA2,R2,hit⟩;cases g with
    |zero=>cases hit
    |succ g=>
     obtain⟨o,h3,h4⟩:=yaZ hit;refine zoF hm hτ hΓ b (R2.app (zpJ R0 hS2 hA2 kp)) _ o _ h3 fun e σ' S' E' L' m' w' h5 hS3 hP3 hA3 R3=>?_;have hSS:=Mem.le_trans hS2 hS3;have hAA:=hA2.trans hA3
     have fin:∀e',mapO Sum.inr (inj N0 outs e' σ')=some o->Q (exQ e') (fr n m') w':=fun e' h5=>by
      obtain⟨d',h6,rfl⟩:=zoL h5;have h7:d'=d:=by cases h4;rfl
      subst h7;obtain⟨S4,E4,L4,σ4,hS4,hP4,R4,_,_,h8⟩:=ztL R3 (kp:=zqE (ziD b) σ kp) (fun S'' E'' hS'' t=>zpJ R0 (Mem.le_trans hSS hS'') hAA kp t) h6;rw[h8]at h2;exact hQ e' σ4 _ _ _ _ _ h2 (Mem.le_trans hSS hS4) ((hP2.trans hP3).trans hP4) hAA R4
     cases e with
     |normal=>obtain⟨x',h6,rfl⟩:=zoL h5;obtain⟨S4,E4,L4,hS4,hP4,R4⟩:=zyQ R3 (fun l=>ziA l R3) h6;exact⟨g,Nat.lt_succ_self g,m',x',S4,E4,L4,rfl,Mem.le_trans hSS hS4,(hP2.trans hP3).trans hP4,hAA,R4,h4⟩
     |exit i=>exact fin (.exit i) h5|ret=>exact fin .ret h5
   ·cases h
  ·rename_i mk s kp outs hj;split at h
   ·rename_i id ops c;split at h
    ·rename_i d t ty pos aft l hops;split at h
     ·rename_i s0 hs0;obtain⟨dd,h1,h2⟩:=zlK h;obtain⟨fuel,hrng⟩:=yqG h1;obtain⟨S0,E0,L0,hS0,hE0,R0⟩:=zrM mk R;obtain⟨S1,E1,L1,hS1,hP1,R1⟩:=zyQ R0 (fun l=>ziA l R0) hs0;have hQ:∀e σ' S' E' L' m' w',k e σ'=some r->Mem.le S0 S'->Pin N0 E0 E'->Agr (ziD (.seq (.region id ops false) c)) m m'->Rel n B S' E' L' σ' m' w'->Q (exQ e) (fr n m') w':=fun e σ' S' E' L' m' w' h1 h2 h3 h4 h5=>hQ e σ' S' E' L' m' w' h1 (Mem.le_trans hS0 h2) ((Pin.of hE0).trans h3) h4 h5;clear hS0 hE0 R;generalize zqF σ mk=σ at *;refine yzN (fun g a w=>∃m' x S' E' L',a=fr n m'/\Mem.le S0 S'/\Pin N0 E0 E'/\Agr (ziD (.seq (.region id ops false) c)) m m'/\Rel n B S' E' L' (s.put x) m' w/\Rng (fun x=>yvX n ((s.put x).app (zqE (ziD (.seq (.region id ops false) c)) σ kp)) d t fun σ=>steps n τ Γ ops.toList l σ fun σ=>run N0 n τ Γ η c σ (nx (fun e σ=>mapO Sum.inr (inj N0 outs e σ)) fun σ=>mapO Sum.inl (s.get N0 σ))) g x dd) fuel ⟨m,s0,S1,E1,L1,rfl,hS1,hP1,Agr.refl _ _,R1,hrng⟩ ?_;rintro g a w ⟨m2,x,S2,E2,L2,rfl,hS2,hP2,hA2,R2,hit⟩;cases g with
      |zero=>exact hit.elim|succ g=>
       have hD:∀t',hasN (znL (⟨some d,.next (.tmp t) false,ty,pos,aft,none⟩::l)) t'=true->hasN (ziD (.seq (.region id ops false) c)) t'=true:=fun t' ht'=>by show hasN (znL ops.toList++ziD c) t'=true;rw[yaE,hops,ht'];rfl
       obtain⟨ops⟩:=ops;have hops:ops=_:=hops;subst hops;refine wp_seq (wp_region_lit (xfA (znT rfl) (xdY (R2.app (zpJ R0 hS2 hA2 kp)) (Z:=rngO (fun s'=>Rng _ g s' dd) dd) (fun h=>h) hit) ?_));rintro v w' ⟨σ1,L3,hy,R3⟩;generalize hyo:(steps n τ Γ _ l σ1 fun σ=>run N0 n τ Γ η c σ (nx (fun e σ=>mapO Sum.inr (inj N0 outs e σ)) fun σ=>mapO Sum.inl (s.get N0 σ)))=o at hy
       match o,hy with
       |some y,hy2=>
        rw[zaK];refine zvD hτ hΓ (D:=ziD (.seq (.region id _ false) c)) (S0:=S2) (E0:=E2) (m0:=m2) (fun σ' S' E' L' m' w' h5 hS3 hE3 hA3 R4=>?_) l (fun t' ht'=>hD t' (zzG ht')) (Mem.le_refl _) (ELe.refl _) (Agr.put (hD d (zzB rfl))) R3 hyo;refine zoF hm hτ hΓ c R4 _ y _ h5 fun e σ' S' E' L' m' w' h5 hS4 hP4 hA4 R4=>?_;have hSS:=Mem.le_trans hS2 (Mem.le_trans hS3 hS4);have hAA:=hA2.trans (hA3.trans hA4.r);have hPP:=(hP2.trans (Pin.of hE3)).trans hP4;have fin:∀e',mapO Sum.inr (inj N0 outs e' σ')=some y->Q (exQ e') (fr n m') w':=fun e' h5=>by obtain⟨d',h6,rfl⟩:=zoL h5;have h7:d'=dd:=hy2;subst h7;obtain⟨S4,E4,L4,σ4,hS4,hP4,R4,_,_,h8⟩:=ztL R4 (kp:=zqE (ziD (.seq (.region id _ false) c)) σ kp) (fun S'' E'' hS'' t=>zpJ R0 (Mem.le_trans hSS hS'') hAA kp t) h6;rw[h8]at h2;exact hQ e' σ4 _ _ _ _ _ h2 (Mem.le_trans hSS hS4) (hPP.trans hP4) hAA R4
        cases e with
        |normal=>obtain⟨x',h6,rfl⟩:=zoL h5;obtain⟨S4,E4,L4,hS4,hP4,R4⟩:=zyQ R4 (fun l=>ziA l R4) h6;exact⟨g,Nat.lt_succ_self g,m',x',S4,E4,L4,rfl,Mem.le_trans hSS hS4,hPP.trans hP4,hAA,R4,hy2⟩
        |exit i=>exact fin (.exit i) h5|ret=>exact fin .ret h5
     ·cases h
    ·cases h
   ·cases h
  ·cases h
theorem yeX{s:Sem Value}{u:Value}(h:(do pure (Next.value (<-s)):Sem Next).run P w = .ok (.value u) w):s.run P w = .ok u w:=by
 rw[Sem.run_bind]at h;cases hs:s.run P w with
 |ok v w'=>rw[hs]at h;simp only[Result.andThen_ok,Sem.run_pure]at h;injection h with h1 h2;injection h1 with h1;rw[h1,h2]
 |halt x w'=>rw[hs]at h;cases h
theorem xbD(hτ:TEok P τ)(R:Rel n B S E L σ m w){v:ResultVar}{x:SV}(h:resV τ σ v=some x):∃u,VR S E x u/\(resS (fr n m).tmps v).run P w = .ok u w:=by
 cases v with
 |tmp t=>cases h;exact⟨_,R.sl t,zcC rfl⟩
 |cell t T=>
  simp only[resV]at h;split at h
  ·rename_i f hT
   have h':deref σ.hp (lkS σ.sl t) f.sz (fun l=>bindS (svAt f l) some)=some x:=by
    have e1:(fun l=>bindS (svAt f l) some)=fun l=>svAt f l:=by funext l;cases svAt f l<;>rfl
    rw[e1];exact h
   obtain ⟨z, u, h1, h2, h3⟩ := ynD (dst := none) (g := none) (ty := 0) (pos := "") (aft := #[]) (a := .tmp t) (k := some) R (hτ _ _ hT) (R.sl t) h';cases h1;refine⟨u,h2,?_⟩;have h4:=yeX (h3 w R.hs);show(do loadVar T (<-asAddr ((fr n m).tmps.getD t undef)):Sem Value).run P w=_;rw[ybO];have h5:(do loadVar T (<-Instr.sureAddr (evO n m (.tmp t))):Sem Value).run P w = .ok u w:=h4;cases hp:evO n m (.tmp t) with
   |pointer a=>
    rw[hp]at h5;cases a with
    |none=>simp[Instr.sureAddr]at h5|some a=>simpa[Instr.sureAddr,asAddr]using h5
   |_=>rw[hp]at h5;simp[Instr.sureAddr]at h5
  ·cases h
theorem zzR(hτ:TEok P τ)(R:Rel n B S E L σ m w):∀{l:List ResultVar} {xs:List SV},zvT τ σ l=some xs->∃us,A2 (VR S E) xs us/\(l.mapM (resS (fr n m).tmps)).run P w = .ok us w
 |[],xs,h=>by cases h;exact⟨[],.nil,by simp⟩
 |v::l,xs,h=>by
  unfold zvT at h;split at h
  ·rename_i x y h1 h2;cases h;obtain⟨u,h3,h4⟩:=xbD hτ R h1;obtain⟨us,h5,h6⟩:=zzR hτ R h2;exact⟨u::us,.cons h3 h5,by simp only[List.mapM_cons,Sem.run_bind,h4,Result.andThen_ok,h6,Sem.run_pure]⟩
  ·cases h
theorem yiP:∀{l:List Ty} {us:LV} {x:zcU l},repA S l us x->us.length=l.length
 |[],us,_,h=>by have:us=[]:=h;subst this;rfl
 |[_],_,_,⟨_,e,_⟩=>by rw[e];rfl
 |_::t'::l,_,_,⟨_,_,e,_,h⟩=>by rw[e];simp[yiP h]
theorem xcD{l:List Ty}{us:LV}{x:zcU l}(h:repA S l us x):repR S l (if h:us.toArray.size=1 then us.toArray[0]else .tuple us.toArray) x:=by
 match l,x,h with
 |[],x,h=>have:us=[]:=h;subst this;exact⟨[],rfl,rfl⟩|[t],x,⟨u,e,h1⟩=>subst e;exact h1|t::t'::l,x,h=>have hl:=yiP h;rw[dif_neg (by simp at hl ⊢;omega)];exact⟨us,rfl,h⟩
theorem yxU:∀{xs:List SV} {us:LV} (i t:Nat),A2 (VR S E) xs us->VR S E (lkS (argS i xs) t) (look (argm us i) t)
 |_,_,i,t,.nil=>trivial|_,_,i,t,.cons a r=>by
  unfold argS lkS argm look;cases aH i t with
  |true=>exact a|false=>exact yxU (i+1) t r
theorem ycK:∀(us:LV) (i t:Nat),look (argm us i) t=if i<=t then us.getD (t-i) undef else undef
 |[],i,t=>by simp[argm,look]
 |u::us,i,t=>by
  unfold argm look;rw[ycK us (i+1) t];cases hb:aH i t with
  |true=>have:=aB hb;subst this;simp|false=>
   have hne:i≠t:=fun e=>by subst e;rw[Nat.beq_refl]at hb;cases hb
   simp only[zF];by_cases h:i<=t
   ·rw[zH h,zH (by omega),show t-i=(t-(i+1))+1 by omega,List.getD_cons_succ]
   ·rw[zG h,zG (by omega)]
theorem zzZ:∀(ash:List Sh) (l:List SV),(putL ash l).1.length=ash.length
 |[],_=>rfl|a::ash,l=>by simp only[putL,aO,zzZ ash]
theorem ydA:∀{xs:List SV} {i t:Nat},i+xs.length<=t->lkS (argS i xs) t = .undef
 |[],_,_,_=>rfl|x::xs,i,t,h=>by
  simp only[aO]at h;unfold argS lkS;have:aH i t=false:=by rw[zkJ];simp;omega
  rw[this];exact ydA (by omega)
theorem ywL{G:List (Nat×Obj)}{S0:Mem}{w0:World}(hG:GS G S0)(hS:Sub S0 w0):GB G ⟨S0,[],w0⟩:=fun p hp=>⟨hS.lt (hG p hp),by simp,hG p hp⟩
theorem gb_in{G:List (Nat×Obj)}{B:Bas}{S0:Mem}{w0:World}{L0:List Res}(hG:GS G S0)(H:HS B S0 w0 L0):GB G ⟨S0,zbR L0,w0⟩:=fun p hp=>by refine⟨H.sub.lt (hG p hp),fun h=>?_,hG p hp⟩;obtain⟨k,r,h1,h2⟩:=zcQ.1 h;have:=(H.old k r _ h1 h2).2;rw[hG p hp]at this;cases this
theorem xcZ{f:FuncId}{fn:Func}{ats:List Sh}{rts:List Ty}{S0:Mem}{w0:World}{us:LV}{a:zcU (ats.flatMap Sh.tys)}{y:zcU rts}(hm:P.follows .mixedOrders=true)(hτ:TEok P τ)(hΓ:CTok P Γ ⟨S0,[],w0⟩)(hf:P.funcs[f]? = some fn)(hl:bR ats.length fn.ntmps=true)(hS:Sub S0 w0)(ha:A2 (VR S0 []) (putL ats (ziL _ a)).1 us)(hy:fnP τ Γ η fn ats rts a=some y):Calls P f us.toArray w0 fun e w'=>Ext w0 w'/\∃v,e = .returned v/\repR (gr S0 w0 w') rts v y:=by
 have hul:us.length=ats.length:=by rw[<-ha.len,zzZ]
 unfold fnP at hy;split at hy
 ·cases hy
 ·rename_i c hb;obtain⟨hj,hy⟩:=zaH hy;refine enter hf hb rfl (by rw[hul];exact hl) ?_;have R0:Rel fn.ntmps ⟨S0,[],w0⟩ S0 [] [] ⟨argS 0 (putL ats (ziL _ a)).1,[]⟩ (argm us 0) w0:=by
   refine⟨HS.start hS,rfl,rfl,fun i o h=>by simp at h,fun t=>?_⟩;show VR S0 [] (lkS (argS 0 (putL ats (ziL _ a)).1) t) (bif cL t fn.ntmps then look (argm us 0) t else undef);cases ht:cL t fn.ntmps with
   |true=>exact yxU 0 t ha|false=>rw[zhH]at ht;have h1:=of_decide_eq_false ht;have h2:=aQ hl;rw[ydA (by rw[zzZ];omega)];trivial
  refine zoF hm hτ hΓ c R0 (fin τ fn rts) y _ hy fun e σ' S' E' L' m' w' h1 _ _ _ R1=>?_
  have key:∀(_:(match zvT τ σ' fn.results.toList with
    |some l=>match zvT τ (frzL σ' (l.flatMap owns)) fn.results.toList with
     |some l=>ybT [] rts l|none=>none
    |none=>none)=some y),(fr fn.ntmps m').defers=[]/\∃v,(results fn (fr fn.ntmps m').tmps).run P w' = .ok v w'/\∃v',Ending.returned v = .returned v'/\Ext w0 w'/\repR (gr S0 w0 w') rts v' y:=fun h1=>by
   split at h1
   ·rename_i l hl1;split at h1
    ·rename_i l2 hl2;obtain⟨S2,E2,L2,_,_,R2⟩:=ziA (l.flatMap owns) R1;obtain⟨vs,h3,h4⟩:=zzR (P:=P) hτ R2 hl2;have h5:=ycE R2.hs.gr rts (yjT rts hj (yiH (Mem.le_refl _) zeL rts h1 h3));refine⟨rfl,_,?_,_,rfl,R2.hs.toExt,xcD h5⟩;rw[zpS,fQ];simp only[Sem.run_bind,Sem.run_map,h4,Result.andThen_ok,Sem.run_pure]
    ·cases h1
   ·cases h1
  cases e with
  |normal=>obtain⟨h2,v,h3,v',h4,h5,h6⟩:=key h1;cases h4;exact⟨h2,v,h3,h5,v,rfl,h6⟩
  |ret=>obtain⟨h2,v,h3,v',h4,h5,h6⟩:=key h1;cases h4;exact⟨h2,v,h3,h5,v,rfl,h6⟩
  |exit i=>cases h1
theorem fn_ok{G:List (Nat×Obj)}{f:FuncId}{fn:Func}{ats:List Sh}{rts:List Ty}(hm:P.follows .mixedOrders=true)(hτ:TEok P τ)(hΓ:∀B,GB G B->CTok P Γ B)(hf:P.funcs[f]? = some fn)(hfn:IsFn P f)(hl:bR ats.length fn.ntmps=true):PCok P G f ⟨ats,rts,fnP τ Γ η fn ats rts,false⟩:=
 ⟨hfn,fun S0 w0 us a y hG hS ha hy=>(xcZ hm hτ (hΓ _ (ywL hG hS)) hf hl hS ha hy).mono fun _ _ h=>⟨h.1,h.2.imp fun _ h=>⟨h.1,h.2,fun h=>by cases h⟩⟩⟩
theorem yjA:∀(us:LV) (pre:LV),zxP (fun t=>(pre++us).getD t undef) pre.length us.length=us
 |[],_=>rfl|u::us,pre=>by have h1:=yjA us (pre++[u]);simp only[aF,List.length_singleton,aX,List.singleton_append]at h1;simp only[aO,zxP,h1];congr 1;simp
theorem yoT(us:LV):zxP (fun t=>us.getD t undef) 0 us.length=us:=yjA us []
theorem yvD(us:LV):(if h:us.toArray.size=1 then us.toArray[0]else .tuple us.toArray)=zxV us:=by
 match us with
 |[]=>rfl|[u]=>rfl|u::u'::us=>rw[dif_neg (by simp)];rfl
theorem yeD:∀{l:List ResultVar} {xs:List SV},zvT τ σ l=some xs->xs.length=l.length
 |[],_,h=>by cases h;rfl
 |v::l,_,h=>by
  unfold zvT at h;split at h
  ·rename_i h2;cases h;simp[yeD h2]
  ·cases h
theorem ytD{f:FuncId}{fn:Func}{c:Code}{N0 nr:Nat}{outs:List (Option Nat×Shp)}{S0:Mem}{w0:World}{us:LV}{E0:List EI}{L0:List Res}{σ0:St}{d:DS outs}{rn:(Ex->St->Option (DS outs))->Option (DS outs)}(hτ:TEok P τ)(hf:P.funcs[f]? = some fn)(hb:fn.body=some c)(hl:us.length<=fn.ntmps)(hr:aH fn.results.toList.length nr=true) (R:RelV ⟨S0,zbR L0,w0⟩ S0 E0 L0 σ0 (fun t=>us.getD t undef) w0) (hg:Rel fn.ntmps ⟨S0,zbR L0,w0⟩ S0 E0 L0 σ0 (argm us 0) w0->Good P N0 fn.ntmps ⟨S0,zbR L0,w0⟩ c rn S0 E0 (argm us 0) w0) (hy:rn (finS τ fn N0 outs)=some d):Calls P f us.toArray w0 fun e w'=>∃v,e = .returned v/\∃S' E' L' σo V',(∀{γ:Type} (k:Ex->St->Option γ),out [] outs d k=k .normal σo)/\Mem.le S0 S'/\Pin N0 E0 E'/\RelV ⟨S0,zbR L0,w0⟩ S' E' L' σo V' w'/\Ver0 σo.hp/\N0<=σo.hp.length/\v=zxV (zxP V' 0 nr):=by
 refine enter hf hb rfl (Nat.ble_eq_true_of_le hl) ?_;have R0:Rel fn.ntmps ⟨S0,zbR L0,w0⟩ S0 E0 L0 σ0 (argm us 0) w0:=by
  refine⟨R.hs,R.lL,R.lE,R.obj,fun t=>?_⟩;have h1:=R.sl t;show VR S0 E0 (lkS σ0.sl t) (bif cL t fn.ntmps then look (argm us 0) t else undef);cases ht:cL t fn.ntmps with
  |true=>have:=ycK us 0 t;rw[zH (bX t)]at this;rw[zE,this];exact h1|false=>
   rw[zhH]at ht;have h2:=of_decide_eq_false ht;rw[zF];have h3:us.getD t undef=undef:=by rw[List.getD_eq_getElem?_getD,List.getElem?_eq_none (by omega)];rfl
   rw[<-h3];exact h1
 refine hg R0 (finS τ fn N0 outs) d _ hy fun e σ' S' E' L' m' w' h1 hS hP _ R1=>?_
 have key:∀(_:(match zvT τ σ' fn.results.toList with
   |some l=>inj N0 outs .normal ⟨argS 0 l,σ'.hp⟩|none=>none)=some d),(fr fn.ntmps m').defers=[]/\∃v,(results fn (fr fn.ntmps m').tmps).run P w' = .ok v w'/\∃v',Ending.returned v = .returned v'/\∃S' E' L' σo V',(∀{γ:Type} (k:Ex->St->Option γ),out [] outs d k=k .normal σo)/\Mem.le S0 S'/\Pin N0 E0 E'/\RelV ⟨S0,zbR L0,w0⟩ S' E' L' σo V' w'/\Ver0 σo.hp/\N0<=σo.hp.length/\v'=zxV (zxP V' 0 nr):=fun h1=>by
  split at h1
  ·rename_i l hl1;obtain⟨vs,h3,h4⟩:=zzR (P:=P) hτ R1 hl1
   have R2:RelV ⟨S0,zbR L0,w0⟩ S' E' L' ⟨argS 0 l,σ'.hp⟩ (fun t=>vs.getD t undef) w':=⟨R1.hs,R1.lL,R1.lE,R1.obj,fun t=>by
    have:=yaP 0 t h3;rw[zH (bX t)]at this
    exact this⟩
   obtain⟨S2,E2,L2,σ2,hS2,hP2,R3,hv,hn,h5⟩:=ztL R2 (kp:=[]) (fun _ _ _ _=>trivial) h1;refine⟨rfl,zxV vs,?_,zxV vs,rfl,S2,E2,L2,σ2,_,h5,Mem.le_trans hS hS2,hP.trans hP2,R3,hv,hn,?_⟩
   ·rw[zpS,fQ];simp only[Sem.run_bind,Sem.run_map,h4,Result.andThen_ok,Sem.run_pure,<-yvD]
   ·have h6:vs.length=nr:=by rw[<-h3.len,yeD hl1];exact aB hr
    rw[<-h6,yoT]
  ·cases h1
 cases e with
 |normal=>obtain⟨h2,v,h3,v',h4,h5⟩:=key h1;cases h4;exact⟨h2,v,h3,v,rfl,h5⟩
 |ret=>obtain⟨h2,v,h3,v',h4,h5⟩:=key h1;cases h4;exact⟨h2,v,h3,v,rfl,h5⟩
 |exit i=>cases h1
theorem yfG{f:FuncId}{fn:Func}{c:Code}{N0 nr:Nat}{outs:List (Option Nat×Shp)}{S0:Mem}{w0:World}{us:LV}{E0:List EI}{L0:List Res}{σ0:St}{d:DS outs}(hm:P.follows .mixedOrders=true)(hτ:TEok P τ)(hΓ:CTok P Γ ⟨S0,zbR L0,w0⟩)(hf:P.funcs[f]? = some fn)(hb:fn.body=some c)(hl:us.length<=fn.ntmps)(hr:aH fn.results.toList.length nr=true) (R:RelV ⟨S0,zbR L0,w0⟩ S0 E0 L0 σ0 (fun t=>us.getD t undef) w0) (hy:run N0 fn.ntmps τ Γ η c σ0 (finS τ fn N0 outs)=some d):Calls P f us.toArray w0 fun e w'=>∃v,e = .returned v/\∃S' E' L' σo V',(∀{γ:Type} (k:Ex->St->Option γ),out [] outs d k=k .normal σo)/\Mem.le S0 S'/\Pin N0 E0 E'/\RelV ⟨S0,zbR L0,w0⟩ S' E' L' σo V' w'/\Ver0 σo.hp/\N0<=σo.hp.length/\v=zxV (zxP V' 0 nr):=
 ytD hτ hf hb hl hr R (fun R0=>zoF hm hτ hΓ c R0) hy
theorem fnS_ok{G:List (Nat×Obj)}{f:FuncId}{fn:Func}{I:Shp}{nr:Nat}{outs:List (Option Nat×Shp)}(hm:P.follows .mixedOrders=true)(hτ:TEok P τ)(hΓ:∀B,GB G B->CTok P Γ B)(hf:P.funcs[f]? = some fn)(hfn:IsFn P f)(hl:bR I.sl.length fn.ntmps=true)(hr:aH fn.results.toList.length nr=true):SCok P G f ⟨I,nr,outs,fnS τ Γ η fn I outs⟩:=by
 refine⟨hfn,fun S0 w0 us E0 L0 a d hG hul R hy=>?_⟩;have hy:fnS τ Γ η fn I outs a=some d:=hy;have hul:us.length=I.sl.length:=hul;unfold fnS at hy;split at hy
 ·cases hy
 ·rename_i c hb;exact yfG hm hτ (hΓ _ (gb_in hG R.hs)) hf hb (by rw[hul];exact aQ hl) hr R hy
end
def PL(P:Program)(G:List (Nat×Obj)):List (Nat×PC)->Prop
 |[]=>True|x::l=>PCok P G x.1 x.2/\PL P G l
def SL(P:Program)(G:List (Nat×Obj)):List (Nat×SC)->Prop
 |[]=>True|x::l=>SCok P G x.1 x.2/\SL P G l
theorem PL.at{P:Program}{G:List (Nat×Obj)}:∀{l:List (Nat×PC)},PL P G l->∀f c,pcAt l f=some c->PCok P G f c
 |[],_,f,c,h=>by cases h
 |(d,x)::l,⟨h1,h2⟩,f,c,h=>by
  unfold pcAt at h;cases hb:aH d f with
  |true=>rw[hb]at h;cases h;rw[<-aB hb];exact h1
  |false=>rw[hb]at h;exact PL.at h2 f c h
theorem SL.at{P:Program}{G:List (Nat×Obj)}:∀{l:List (Nat×SC)},SL P G l->∀f c,c∈scAt l f->SCok P G f c
 |[],_,f,c,h=>by cases h
 |(d,x)::l,⟨h1,h2⟩,f,c,h=>by
  unfold scAt at h;cases hb:aH d f with
  |true=>
   rw[hb]at h;rcases List.mem_cons.1 h with rfl|h
   ·rw[<-aB hb];exact h1
   ·exact SL.at h2 f c h
  |false=>rw[hb]at h;exact SL.at h2 f c h
theorem ctok{P:Program}{G:List (Nat×Obj)}{pc:List (Nat×PC)}{sc:List (Nat×SC)}{k:Bool}{fm:List (Nat×List FSh)}(h1:PL P G pc)(h2:SL P G sc)(hj:fmAt fm 999999999=none:=by rfl):∀B,GB G B->CTok P ⟨pc,sc,k,fm⟩ B:=fun B hG=>
 ⟨fun f c h=>⟨(h1.at f c h).fn,fun S w us a y hA=>(h1.at f c h).ok S w us a y (hA.gs hG)⟩,fun f c h=>⟨(h2.at f c h).fn,fun S w us E L a d hA=>(h2.at f c h).ok S w us E L a d (hA.gs hG)⟩,fun h=>by unfold jnOf at h;rw[show(CT.mk pc sc k fm).fm=fm from rfl,hj]at h;cases h⟩
theorem ytA{P:Program}{G:List (Nat×Obj)}{τ:TE}{Γ:CT}{η:HT}{f:FuncId}{fn:Func}{c:PC}(hm:P.follows .mixedOrders=true)(hτ:TEok P τ)(hΓ:∀B,GB G B->CTok P Γ B)(hf:P.funcs[f]? = some fn)(hfn:IsFn P f)(hl:bR c.ash.length fn.ntmps=true)(hc:c.cl=false)(he:fnP τ Γ η fn c.ash c.rts=c.p):PCok P G f c:=by have h:=fn_ok (η:=η) (rts:=c.rts) hm hτ hΓ hf hfn hl;rw[he,<-hc]at h;exact h
theorem zqD{P:Program}{G:List (Nat×Obj)}{τ:TE}{Γ:CT}{η:HT}{f:FuncId}{fn:Func}{c:SC}(hm:P.follows .mixedOrders=true)(hτ:TEok P τ)(hΓ:∀B,GB G B->CTok P Γ B)(hf:P.funcs[f]? = some fn)(hfn:IsFn P f)(hl:bR c.I.sl.length fn.ntmps=true)(hr:aH fn.results.toList.length c.nr=true)(he:fnS τ Γ η fn c.I c.outs=c.p):SCok P G f c:=by have h:=fnS_ok (η:=η) (outs:=c.outs) hm hτ hΓ hf hfn hl hr;rw[he]at h;exact h
abbrev hS:Sh:=.h .s
abbrev hI:Sh:=.h (.i .i64)
abbrev hB:Sh:=.h .b
def scal:Ty->Bool
 |.i _=>true|.b=>true|.s=>true|_=>false
def encV:(t:Ty)->den t->Value
 |.i k,x=>.int k (toI k x)|.b,x=>.bool x|.s,x=>str x|_,_=>undef
def encL:(l:List Ty)->zcU l->LV
 |[],_=>[]|[t],x=>[encV t x]|t::t'::l,x=>encV t x.1::encL (t'::l) x.2
def encR(l:List Ty)(x:zcU l):Value:=match l,x with
 |[t],x=>encV t x|l,x=>.tuple (encL l x).toArray
section
variable {S:Mem}{E:List EI}{P:Program}{G:List (Nat×Obj)}{f:FuncId}
theorem zzT:∀{t:Ty} {x:den t} {u:Value},scal t=true->VR S E (svOf t x) u->u=encV t x
 |.i k,x,u,_,h=>by have h:[u]=[Value.int k (toI k x)]:=h;exact(List.cons.inj h).1
 |.b,x,u,_,h=>by have h:[u]=[Value.bool x]:=h;exact(List.cons.inj h).1
 |.s,x,u,_,h=>by have h:[u]=[str x]:=h;exact(List.cons.inj h).1
theorem ybN:∀{t:Ty} {x:den t},scal t=true->rep1 t S (encV t x) x
 |.i _,_,_=>rfl|.b,_,_=>rfl|.s,_,_=>rfl
theorem yjU:∀{l:List Ty} {x:zcU l},l.all scal=true->repA S l (encL l x) x
 |[],_,_=>rfl|[t],x,h=>⟨_,rfl,ybN (by simpa using h)⟩|t::t'::l,x,h=>⟨_,_,rfl,ybN (by simp at h;exact h.1),yjU (by simp at h ⊢;exact h.2)⟩
theorem yaD{l:List Ty}{x:zcU l}(h:l.all scal=true):repR S l (encR l x) x:=match l,x,h with
 |[t],x,h=>show rep1 t S (encV t x) x from ybN (by simpa using h)
 |[],_,_=>⟨[],rfl,rfl⟩|t::t'::l,x,h=>⟨_,rfl,yjU h⟩
theorem pc1{t1:Ty}{rts:List Ty}{p:den t1->Option (zcU rts)}(h1:scal t1=true)(hr:rts.all scal=true)(hfn:IsFn P f) (h:∀S w x y,GS G S->Sub S w->p x=some y->Calls P f #[encV t1 x] w fun e w'=>e = .returned (encR rts y)/\Ext w w'):
  PCok P G f ⟨[.h t1],rts,p,false⟩:=by
 refine⟨hfn,fun S0 w0 us x y hG hS ha hy=>?_⟩;have ha:A2 (VR S0 []) [svOf t1 x] us:=ha;cases ha with
 |cons q1 q2=>cases q2;rw[zzT h1 q1];exact(h S0 w0 x y hG hS hy).mono fun e w' ⟨he,hx⟩=>⟨hx,_,he,yaD hr,fun h=>by cases h⟩
theorem pc2{t1 t2:Ty}{rts:List Ty}{p:den t1->den t2->Option (zcU rts)}(h1:scal t1=true)(h2:scal t2=true)(hr:rts.all scal=true)(hfn:IsFn P f) (h:∀S w x1 x2 y,GS G S->Sub S w->p x1 x2=some y->Calls P f #[encV t1 x1,encV t2 x2] w fun e w'=>e = .returned (encR rts y)/\Ext w w'):
  PCok P G f ⟨[.h t1,.h t2],rts,fun(x:den t1×den t2)=>p x.1 x.2,false⟩:=by
 refine⟨hfn,fun S0 w0 us (x:den t1×den t2) y hG hS ha hy=>?_⟩;have ha:A2 (VR S0 []) [svOf t1 x.1,svOf t2 x.2] us:=ha;cases ha with
 |cons q1 q2=>
  cases q2 with
  |cons q3 q4=>cases q4;rw[zzT h1 q1,zzT h2 q3];exact(h S0 w0 x.1 x.2 y hG hS hy).mono fun e w' ⟨he,hx⟩=>⟨hx,_,he,yaD hr,fun h=>by cases h⟩
end
section
variable {τ:TE}{P:Program}{G:List (Nat×Obj)}
theorem ywI{f:FuncId}{fn:Func}{c:Code}{e:Ty}{T:TypeId}(hm:P.follows .mixedOrders=true)(hτ:TEok P τ)(hf:P.funcs[f]? = some fn)(hfn:IsFn P f)(hb:fn.body=some c)(hl:bR 1 fn.ntmps=true)(hr:aH fn.results.toList.length 1=true) (h1:run 0 fn.ntmps τ ⟨[],[],false,[]⟩ [] c ⟨[(0,.nils)],[]⟩ (finS τ fn 0 [(none,⟨[(0,.nils)],[]⟩)])=some ()) (h2:∀xs:List (den e),run 0 fn.ntmps τ ⟨[],[],false,[]⟩ [] c ⟨[(0,.nn e xs)],[]⟩ (finS τ fn 0 [(none,⟨[(0,.own 0)],[.osl e T]⟩)])=aA (app [] xs) fun r=>some r):
  SCok P G f ⟨⟨[(0,.h (.sl e))],[]⟩,1,[(none,⟨[(0,.own 0)],[.osl e T]⟩)],fun xs=>app [] xs⟩:=by
 refine⟨hfn,fun S0 w0 us E0 L0 (xs:List (den e)) (d:List (den e)) _ hul R hy=>?_⟩;have hy:app [] xs=some d:=hy;have hul:us.length=1:=hul;have hle:us.length<=fn.ntmps:=by rw[hul];exact aQ hl
 obtain⟨u,rfl⟩:∃u,us=[u]:=by
  match us,hul with
  |[u],_=>exact⟨u,rfl⟩
 have hu:VB S0 E0 (.v (.sl e) xs) u:=R.sl 0;obtain⟨v,hv,hrd⟩:=hu;injection hv with hv;subst hv
 have re:∀{x:SV},VR S0 E0 x u->RelV ⟨S0,zbR L0,w0⟩ S0 E0 L0 ⟨[(0,x)],[]⟩ (fun t=>[u].getD t undef) w0:=fun {x} hx=>⟨R.hs,R.lL,R.lE,R.obj,fun t=>by
  cases t with
  |zero=>exact hx|succ t=>trivial⟩
 by_cases hn:∃n c,u = .slice none n c
 ·have hu0:u = .slice none 0 0/\xs=[]:=by
   obtain⟨cs,k1,k2⟩:=hrd;obtain⟨n,c',hn⟩:=hn;rcases k1 with⟨⟨a0,k1⟩,k3,_⟩|⟨b',o,c2,ds,T2,fz,k1,_⟩
   ·rw[hn]at k1;injection k1 with _ e2 e3;exact⟨by rw[hn,e2,e3],aU k3⟩
   ·rw[hn]at k1;cases k1
  obtain⟨rfl,rfl⟩:=hu0;have hd:d=[]:=ybJ hy;subst hd;refine(yfG hm hτ (ctok (G:=[]) (pc:=[]) (sc:=[]) (k:=false) trivial trivial (by rfl) _ (fun _ h=>by cases h)) hf hb hle hr (re (x:=.nils) rfl) h1).mono fun e' w' ⟨v,he,S',E',L',σo,V',ho,hS,hP,R',hv0,hn0,hres⟩=>?_;have hσ:σo=⟨[(0,.nils)],[]⟩:=by have:=ho (γ:=St) fun _ σ=>some σ;exact(osi this).symm
  subst hσ;have hl':L'.length=0:=R'.lL;have hE':E'.length=0:=R'.lE;have e1:L'=[]:=aU hl';have e2:E'=[]:=aU hE';subst e1;subst e2;have h0:V' 0 = .slice none 0 0:=R'.sl 0;refine⟨v,he,S',[.osl 0 (.slice none 0 0) (tsz e)],[.osl (.slice none 0 0) 0 (tsz e) [] [] T],⟨[(0,.own 0 0)],[.osl 0 e T []]⟩,V',fun k=>?_,hS,fun k e hk=>absurd hk (Nat.not_lt_zero k),⟨HS.nil R'.hs _ _,rfl,rfl,fun i o h=>?_,fun t=>?_⟩,?_,bX _,hres⟩
  ·show k (exOf none) _=_;have:(Shp.put (⟨[(0,.own 0)],[.osl e T]⟩:Shp) ([]:List (den e)))=⟨[(0,.own 0 0)],[.osl 0 e T []]⟩:=by
    obtain⟨q,hq⟩:=zeC e;have e0:∀y:den (.sl e),zdL [.osl e T] [.v (.sl e) y]=[.osl 0 e T y]:=fun y=>by rw[zdL,hq];rfl
    have e1:zdL [.osl e T] [.v (.sl e) ([]:List (den e))]=[.osl 0 e T []]:=e0 _;exact congrArg (fun hp=>(⟨[(0,.own 0 0)],hp⟩:St)) e1
   rw[this];rfl
  ·cases i with
   |zero=>cases h;exact⟨_,_,rfl,rfl,.slice none 0 0,.slice none 0 0,[],[],rfl,rfl,rfl,.inl rfl⟩
   |succ i=>cases h
  ·cases t with
   |zero=>exact VR.ofC (show VC S' _ (.own 0 0) (V' 0) by rw[h0];exact⟨rfl,_,rfl,fun r v s he=>by cases he;exact⟨aJ 0,fun _=>rfl⟩⟩)|succ t=>trivial
  ·intro i ver e' T' xs h;cases i with
   |zero=>cases h;rfl
   |succ i=>cases h
 ·exact(yfG hm hτ (ctok (G:=[]) (pc:=[]) (sc:=[]) (k:=false) trivial trivial (by rfl) _ (fun _ h=>by cases h)) hf hb hle hr (re (x:=.nn e xs) ⟨hrd,fun n c h=>hn ⟨n,c,h⟩⟩) ((h2 xs).trans (by rw[hy];rfl))).mono fun _ _ h=>h
end
section
def mem1(S:Mem)(w:World)(q:Option Nat):Mem:=fun b=>match S b with
 |some o=>some o|none=>bif decide (q=some b)then nj w.heap[b]? else none
def wo1(S:Mem)(q:Option Nat):Mem:=fun b=>bif decide (q=some b)then none else S b
section
variable {S:Mem}{w:World}{q:Option Nat}{b:Nat}
theorem le1:Mem.le S (mem1 S w q):=fun b o h=>by unfold mem1;rw[h]
theorem sub1(h:Sub S w):Sub (mem1 S w q) w:=fun b o e=>by
 unfold mem1 at e;split at e
 ·rename_i h1;cases e;exact h _ _ h1
 ·cases hq:decide (q=some b) with
  |true=>rw[hq]at e;exact zvU e|false=>rw[hq]at e;cases e
theorem ypS{o:Obj}(h:S b=none)(hw:w.heap[b]? = some o)(hj:isJ o=false):mem1 S w (some b) b=some o:=by unfold mem1;rw[h,zA rfl,hw];exact ymL hj
theorem ypP(h:q≠some b):mem1 S w q b=S b:=by
 unfold mem1;cases hb:S b with
 |some o=>rfl|none=>rw[decide_eq_false h];rfl
theorem wo1_le:Mem.le (wo1 S q) S:=fun b o e=>by
 unfold wo1 at e;cases h:decide (q=some b) with
 |true=>rw[h]at e;cases e
 |false=>rw[h]at e;exact e
theorem yhH(h:q≠some b):wo1 S q b=S b:=by unfold wo1;rw[decide_eq_false h];rfl
theorem yvQ(h:S b=none):wo1 S q b=none:=by
 unfold wo1;cases decide (q=some b) with
 |true=>rfl|false=>exact h
theorem pt_wo{c:Ty}(hc:zrK c=false)(hq:∀b,q=some b->∃a ds T fz,S b=some (.cells (Value.pointer a::ds).toArray T fz)):∀{xs:List (den (.pt (.pr .s c)))} {cs:LV},@RL (den (.pt (.pr .s c))) (rpD (.pt (.pr .s c))) S cs xs->@RL (den (.pt (.pr .s c))) (rpD (.pt (.pr .s c))) (wo1 S q) cs xs
 |[],_,h=>h|y::_,_,⟨c1,c2,e,⟨u,b,us,e1,e2,⟨ds,T,fz,k1,k2,k3⟩,c3,c4,e3,k4,k5⟩,h2⟩=>by
  have hne:q≠some b:=fun hb=>by
   obtain⟨a,ds',T',fz',k6⟩:=hq b hb;rw[k1]at k6;injection k6 with k6;injection k6 with k6;have k6:ds=Value.pointer a::ds':=by simpa using k6
   have k4:c3=[str y.1]:=k4;rw[k6,zaN,e3,k4]at k3;simp at k3
  exact⟨c1,c2,e,⟨u,b,us,e1,e2,⟨ds,T,fz,(yhH hne).trans k1,k2,k3⟩,c3,c4,e3,k4,zrL c hc k5⟩,pt_wo hc hq h2⟩
end
variable {P:Program}{G:List (Nat×Obj)}
theorem ylJ{f:FuncId}{c:Ty}{T:TypeId}(hc:zrK c=false)(h:SCok P G f ⟨⟨[(0,.h (.sl (.pt (.pr .s c))))],[]⟩,1,[(none,⟨[(0,.own 0)],[.osl (.pt (.pr .s c)) T]⟩)],fun(xs:List (den (.pt (.pr .s c))))=>app [] xs⟩):
  SCok P G f ⟨⟨[(0,.own 0)],[.osl (.pt (.pr .s c)) T]⟩,1,[(none,⟨[(0,.own 1)],[.osl (.pt (.pr .s c)) T,.osl (.pt (.pr .s c)) T]⟩)],fun(xs:List (den (.pt (.pr .s c))))=>aA (app [] xs) fun r=>some (xs,r)⟩:=by
 obtain⟨e,he⟩:∃e:Ty,e = .pt (.pr .s c):=⟨_,rfl⟩;have hz:tsz (.pt (.pr .s c))=1:=rfl;obtain⟨q,hq⟩:=zeC (.pt (.pr .s c));have e0:∀y:den (.sl (.pt (.pr .s c))),zdL [.osl (.pt (.pr .s c)) T] [.v (.sl (.pt (.pr .s c))) y]=[.osl 0 (.pt (.pr .s c)) T y]:=fun y=>by rw[zdL,hq];rfl
 refine⟨h.fn,fun S0 w0 us E0 L0 (xs:List (den (.pt (.pr .s c)))) (d:List (den (.pt (.pr .s c)))×List (den (.pt (.pr .s c)))) hG hul R hy=>?_⟩;have hy:(aA (app [] xs) fun r=>some (xs,r))=some d:=hy;obtain⟨ys,hys,hd⟩:=bnd hy;cases hd;have hyx:ys=xs:=ybJ hys;have hul:us.length=1:=hul;obtain⟨u,rfl⟩:∃u,us=[u]:=by
  match us,hul with
  |[u],_=>exact⟨u,rfl⟩
 have hput:(Shp.put (⟨[(0,.own 0)],[.osl (.pt (.pr .s c)) T]⟩:Shp) xs)=⟨[(0,.own 0 0)],[.osl 0 (.pt (.pr .s c)) T xs]⟩:=congrArg (fun hp=>(⟨[(0,.own 0 0)],hp⟩:St)) (e0 xs);have R:RelV ⟨S0,zbR L0,w0⟩ S0 E0 L0 ⟨[(0,.own 0 0)],[.osl 0 (.pt (.pr .s c)) T xs]⟩ (fun t=>[u].getD t undef) w0:=by rw[<-hput];exact R
 obtain⟨r0,ee0,g1,g2,v,v',cs,rs,rfl,rfl,hrl,hsm⟩:=R.obj 0 _ rfl;have hL:L0.length=1:=R.lL;have hE:E0.length=1:=R.lE;obtain⟨h7,e1,h8,h9⟩:=(show VB S0 E0 (.own 0 0) u from R.sl 0);rw[g2]at h8;cases h8;have hu:u=v':=(h9 _ _ _ rfl).2 rfl;subst hu;have hk:lkR L0 0=some (.osl v xs.length 1 cs rs T):=by rw[zbC];exact g1
 have hS1:SlS (mem1 S0 w0 (vkey v)) v xs.length 1 cs:=by
  rcases R.hs.own 0 _ hk with⟨h1,h2,h3,_⟩|⟨b,c',fz,rfl,h1,h2,h3,h4,_⟩
  ·exact .inl ⟨⟨_,h1⟩,h2,h3⟩
  ·refine .inr ⟨b,0,c',cs++rs,T,fz,rfl,h1,ypS (R.hs.old 0 _ b hk rfl).2 h4 rfl,by simp;omega,?_⟩;rw[zaN,List.drop_zero,<-h2,List.take_left'];rfl
 have hrd:@RdS (den (.pt (.pr .s c))) (rpD (.pt (.pr .s c))) (mem1 S0 w0 (vkey v)) u xs:=hsm.rd le1 ⟨cs,hS1,@RL.mono (den (.pt (.pr .s c))) (rpD (.pt (.pr .s c))) _ _ _ _ hrl le1⟩;refine(h.ok (mem1 S0 w0 (vkey v)) w0 [u] [] [] xs ys (fun p hp=>le1 _ _ (hG p hp)) rfl ⟨HS.start (sub1 R.hs.sub),rfl,rfl,fun i o ho=>by simp[Shp.put,zdL]at ho,fun t=>?_⟩ hys).mono ?_
 ·cases t with
  |zero=>exact(⟨u,rfl,hrd⟩:VB (mem1 S0 w0 (vkey v)) [] (.v (.sl (.pt (.pr .s c))) xs) u)|succ t=>trivial
 rintro e' w' ⟨v1,hv1,S',E',L',σo,V',hout,hS,_,R2,_,_,hres⟩;have hσ:σo=⟨[(0,.own 0 0)],[.osl 0 (.pt (.pr .s c)) T ys]⟩:=by have h1:=hout (γ:=St) fun _ σ=>some σ;have h2:(Shp.put (⟨[(0,.own 0)],[.osl (.pt (.pr .s c)) T]⟩:Shp) ys)=⟨[(0,.own 0 0)],[.osl 0 (.pt (.pr .s c)) T ys]⟩:=congrArg (fun hp=>(⟨[(0,.own 0 0)],hp⟩:St)) (e0 ys);have h3:(some ((Shp.put (⟨[(0,.own 0)],[.osl (.pt (.pr .s c)) T]⟩:Shp) ys).app []):Option St)=some σo:=h1;rw[h2]at h3;exact(osi h3).symm
 subst hσ;obtain⟨r2,ee2,k1,k2,vv,vv',cs2,rs2,rfl,rfl,hrl2,hsm2⟩:=R2.obj 0 _ rfl;obtain⟨k3,e2,k4,k5⟩:=(show VB S' E' (.own 0 0) (V' 0)from R2.sl 0);rw[k2]at k4;cases k4;have hV:V' 0=vv':=(k5 _ _ _ rfl).2 rfl;have hk2:lkR L' 0=some (.osl vv ys.length 1 cs2 rs2 T):=by rw[zbC];exact k1
 have hx:Ext w0 w':=R2.hs.toExt;have hown:∀b,vkey v=some b->S0 b=none:=fun b hb=>(R.hs.old 0 _ b hk hb).2
 have hle:Mem.le S0 (wo1 S' (vkey v)):=fun b o ho=>by
  have hne:vkey v≠some b:=fun hb=>by rw[hown b hb]at ho;cases ho
  rw[yhH hne];exact hS _ _ (le1 _ _ ho)
 have hrl3:@RL (den (.pt (.pr .s c))) (rpD (.pt (.pr .s c))) (wo1 S' (vkey v)) cs2 ys:=by
  cases xs with
  |nil=>subst hyx;exact hrl2|cons y xs=>
   refine pt_wo hc (fun b hb=>?_) hrl2;rcases R.hs.own 0 _ hk with⟨h1,_⟩|⟨b',c',fz,rfl,h1,h2,h3,h4,_⟩
   ·rw[h1]at hb;cases hb
   ·cases hb;obtain⟨c1,c2,rfl,⟨u1,b1,us1,rfl,rfl,_⟩,_⟩:=hrl;exact⟨_,c2++rs,T,fz,hS _ _ (ypS (hown _ rfl) h4 rfl)⟩
 have hnew:∀b,(Res.osl vv ys.length 1 cs2 rs2 T).has b->w0.heap.size<=b:=fun b hb=>by
  rcases(R2.hs.old 0 _ b hk2 hb).1 with h1|h1
  ·exact h1
  ·cases h1
 have H:HS ⟨S0,zbR L0,w0⟩ (wo1 S' (vkey v)) w' (.osl vv ys.length 1 cs2 rs2 T::L0):=by
  refine⟨R.hs.fr.more hx,fun b o ho=>R2.hs.sub b o (wo1_le b o ho),fun b hb hX=>?_,fun k r hkr=>?_,fun k r b hkr hb=>?_,fun i j r s b hi hj h1 h2=>?_⟩
  ·have hne:vkey v≠some b:=fun e=>hX (zcQ.2 ⟨0,_,hk,e⟩);exact(yhH hne).trans ((R2.hs.keep b hb (show b∉([]:List Nat)from cJ)).trans (ypP hne))
  ·cases k with
   |zero=>cases hkr;exact R2.hs.own 0 _ hk2
   |succ k=>exact(R.hs.ext hx).own k r hkr
  ·cases k with
   |zero=>cases hkr;exact⟨.inl (hnew b hb),yvQ (R2.hs.old 0 _ b hk2 hb).2⟩
   |succ k=>
    have hkr:lkR L0 k=some r:=hkr;refine⟨(R.hs.old k r b hkr hb).1,?_⟩;by_cases hq:vkey v=some b
    ·unfold wo1;rw[zA hq];rfl
    ·rw[yhH hq,R2.hs.keep b (R.hs.res_lt hkr hb) (show b∉([]:List Nat)from cJ)];show mem1 S0 w0 (vkey v) b=none;rw[ypP hq];exact(R.hs.old k r b hkr hb).2
  ·cases i with
   |zero=>
    cases j with
    |zero=>rfl|succ j=>cases hi;have:=hnew b h1;have:=R.hs.res_lt (show lkR L0 j=some s from hj) h2;omega
   |succ i=>
    cases j with
    |zero=>cases hj;have:=hnew b h2;have:=R.hs.res_lt (show lkR L0 i=some r from hi) h1;omega
    |succ j=>rw[R.hs.inj i j r s b hi hj h1 h2]
 refine⟨v1,hv1,wo1 S' (vkey v),E0++[.osl 0 vv' 1],L0++[.osl vv ys.length 1 cs2 rs2 T],⟨[(0,.own 1 0)],[.osl 0 (.pt (.pr .s c)) T xs,.osl 0 (.pt (.pr .s c)) T ys]⟩,V',fun k=>?_,hle,Pin.of (ELe.push _ _),⟨HS.snoc H,by simp[hL],by simp[hE],fun i o ho=>?_,fun t=>?_⟩,?_,by simp,hres⟩
 ·show k (exOf none) _=_;have h2:(Shp.put (⟨[(0,.own 1)],[.osl (.pt (.pr .s c)) T,.osl (.pt (.pr .s c)) T]⟩:Shp) ((xs,ys):List (den (.pt (.pr .s c)))×List (den (.pt (.pr .s c)))))=⟨[(0,.own 1 0)],[.osl 0 (.pt (.pr .s c)) T xs,.osl 0 (.pt (.pr .s c)) T ys]⟩:=by
   have e2:∀y z:den (.sl (.pt (.pr .s c))),zdL [.osl (.pt (.pr .s c)) T,.osl (.pt (.pr .s c)) T] [.v (.sl (.pt (.pr .s c))) y,.v (.sl (.pt (.pr .s c))) z]=[.osl 0 (.pt (.pr .s c)) T y,.osl 0 (.pt (.pr .s c)) T z]:=fun y z=>by rw[zdL,hq];simp only[];rw[e0];rfl
   exact congrArg (fun hp=>(⟨[(0,.own 1 0)],hp⟩:St)) (e2 xs ys)
  rw[h2];rfl
 ·cases i with
  |zero=>
   cases ho;refine⟨_,_,by rw[aE (by omega)];exact g1,by rw[aE (by omega)];exact g2,v,u,cs,rs,rfl,rfl,@RL.mono (den (.pt (.pr .s c))) (rpD (.pt (.pr .s c))) _ _ _ _ hrl hle,?_⟩;rcases hsm with h1|⟨h1,h2,_,h3⟩
   ·exact .inl h1
   ·exact .inr ⟨h1,h2,.inl ⟨h3,rfl,rfl⟩,h3⟩
  |succ i=>
   cases i with
   |zero=>
    cases ho;refine⟨_,_,by rw[aI (by omega),hL];rfl,by rw[aI (by omega),hE];rfl,vv,vv',cs2,rs2,rfl,rfl,hrl3,?_⟩;rcases hsm2 with h1|⟨h1,h2,_,h3⟩
    ·exact .inl h1
    ·exact .inr ⟨h1,h2,.inl ⟨h3,rfl,rfl⟩,h3⟩
   |succ i=>simp at ho
 ·cases t with
  |zero=>exact VR.ofC (show VC (wo1 S' (vkey v)) _ (.own 1 0) (V' 0)from⟨k3,.osl 0 vv' 1,by rw[aI (by omega),hE];rfl,fun r v s he=>by cases he;exact⟨aJ 0,fun _=>hV⟩⟩)|succ t=>trivial
 ·intro i ver e' T' xs' hi;cases i with
  |zero=>cases hi;rfl
  |succ i=>
   cases i with
   |zero=>cases hi;rfl
   |succ i=>simp at hi
end
class xaD (G:List (Nat×Obj)):Prop where
 ok:True
instance :xaD []:=⟨trivial⟩
theorem wit{p:Prop}{G:List (Nat×Obj)}[xaD G](h:p):p:=h
section
variable {G:List (Nat×Obj)}
def macP(key s:Bs):Option Bs:=bif decide (key.length<=68719470000)&&decide (s.length<=68719460000)then some (macF key s)else none
def zrF:PC:=⟨[.h .s,.h .s],[.s],fun x=>macP x.1 x.2,false⟩
theorem zxS:PCok aD G 46 zrF:=pc2 (t1:=.s) (t2:=.s) (rts:=[.s]) rfl rfl rfl (isFn Tryz.func46 (by kernel_rfl) (by kernel_rfl)) fun _ _ x1 x2 y _ hS h=>by unfold macP at h;obtain⟨hb,h⟩:=zaH h;simp only[aL,zD]at hb;cases h;exact zkC hS (yaM hb.1 hb.2)
def zjD:PC:=⟨[.h .s,.h .s],[.s],fun x=>macP x.1 x.2,false⟩
theorem zlE:PCok aD G 56 zjD:=pc2 (t1:=.s) (t2:=.s) (rts:=[.s]) rfl rfl rfl (isFn Tryz.func56 (by kernel_rfl) (by kernel_rfl)) fun _ _ x1 x2 y _ hS h=>by unfold macP at h;obtain⟨hb,h⟩:=zaH h;simp only[aL,zD]at hb;cases h;exact ytU hS (macR hb.1 hb.2)
def ytX(x y:Bs):Option Bool:=bif decide (x.length<=68719476736)&&decide (y.length<=68719476736)then some (x==y)else none
def ztT:PC:=⟨[.h .s,.h .s],[.b],fun x=>ytX x.1 x.2,false⟩
theorem ycV:PCok aD G 79 ztT:=pc2 (t1:=.s) (t2:=.s) (rts:=[.b]) rfl rfl rfl (isFn Tryz.func79 (by kernel_rfl) (by kernel_rfl)) fun _ _ x1 x2 y _ hS h=>by unfold ytX at h;obtain⟨hb,h⟩:=zaH h;simp only[aL,zD]at hb;cases h;exact zxK hS (yjH hb.1 hb.2)
def yaF(x:Bs):Option Bs:=bif decide (x.length<=4194304)then some (b64 x)else none
def zpC:PC:=⟨[.h .s],[.s],yaF,false⟩
theorem zwQ:PCok aD G 130 zpC:=pc1 (t1:=.s) (rts:=[.s]) rfl rfl (isFn Tryz.func130 (by kernel_rfl) (by kernel_rfl)) fun _ _ x y _ hS h=>by unfold yaF at h;obtain⟨hb,h⟩:=zaH h;cases h;exact ygV hS (yaK _ (zC hb))
theorem CellAt.pre{S:Mem}{b o:Nat}{l m:LV}(h:CellAt S b o (l++m)):CellAt S b o l:=by obtain⟨ds,T,fz,h1,h2,h3⟩:=h;refine⟨ds,T,fz,h1,by rw[aF]at h2;omega,?_⟩;have:=congrArg (List.take l.length) h3;rw[zaN,List.take_take,List.take_left,Nat.min_eq_left (by rw[aF];omega)]at this;rw[zaN];exact this
abbrev kyT:Ty:=.pr .s (.pr .s .s)
def yfA(s:Bs):Option (Bs×Bs×Bs):=bif decide (s.length<=68719460000)then some (s,kidF s,mkF s)else none
def zpA:PC:=⟨[.h .s],[.pt kyT],yfA,false⟩
theorem zuA:PCok aD G 72 zpA:=by
 refine⟨isFn Tryz.func72 (by kernel_rfl) (by kernel_rfl),fun S0 w0 us (x:Bs) (y:den kyT) hG hS ha hy=>?_⟩;have ha:A2 (VR S0 []) [svOf .s x] us:=ha;cases ha with
 |cons q1 q2=>cases q2;have q1:=zzT (t:=.s) (x:=x) rfl q1;subst q1;have hy:yfA x=some y:=hy;unfold yfA at hy;obtain⟨hb,hy⟩:=zaH hy;cases hy;refine(zqO hS (ygW (zC hb))).mono fun e w' ⟨hx,v,he,hr⟩=>?_;obtain⟨b,cs,rfl,hc,c1,c2,rfl,h1,c3,c4,rfl,h2,c5,c6,rfl,h3,_⟩:=opK hr rfl;rw[<-aX,<-aX]at hc;have hc:=CellAt.pre hc;rw[aX]at hc;exact⟨hx,_,he,(⟨_,b,c1++(c3++c5),rfl,rfl,hc,c1,c3++c5,rfl,h1,c3,c5,rfl,h2,h3⟩:rep (.pt kyT) _ [_] (show den (.pt kyT)from(x,kidF x,mkF x))),fun h=>by cases h⟩
def yiE:PC:=⟨[],[.b],fun _=>some true,false⟩
theorem yuF:PCok aD G 11 yiE:=by refine⟨isFn Tryz.func11 (by kernel_rfl) (by kernel_rfl),fun S0 w0 us x y hG hS ha hy=>?_⟩;cases ha;have hy:some true=some y:=hy;cases hy;exact(ykJ hS ytL).mono fun e w' ⟨he,hx⟩=>⟨hx,_,he,yaD (l:=[.b]) rfl,fun h=>by cases h⟩
end
section
variable {P:Program}{G:List (Nat×Obj)}
end
section
variable {P:Program}{G:List (Nat×Obj)}
end
def hole:Code->List Bool->Code
 |.seq a b,q::p=>bif q then hole a p else hole b p
 |.cond _ a b,q::p=>bif q then hole a p else hole b p
 |.block _ b,p=>hole b p|.loop b,[]=>b|_,_=>.skip
section
variable {β:Type}{τ:TE}{Γ:CT}{η:HT}{N0 n:Nat}{P:Program}{B:Bas}{S0:Mem}{E0:List EI}{m0:FM}{D:List Nat}
def OnK(N0 n:Nat)(B:Bas)(S0:Mem)(E0:List EI)(m0:FM)(D:List Nat){β:Type}(k:Ex->St->Option β)(r:β)(Q:Exit->Act->World->Prop):Prop:=
 ∀e σ S E L m w,k e σ=some r->Mem.le S0 S->Pin N0 E0 E->Agr D m0 m->Rel n B S E L σ m w->Q (exQ e) (fr n m) w
theorem OnK.blk{k:Ex->St->Option β}{r:β}{Q:Exit->Act->World->Prop}{id:Nat}(h:OnK N0 n B S0 E0 m0 D k r Q):OnK N0 n B S0 E0 m0 D (blk id k) r (Exit.inBlock id Q):=fun e σ S E L m w hk hS hP hA R=>by
 cases e with
 |normal=>exact h .normal _ _ _ _ _ _ hk hS hP hA R|ret=>exact h .ret _ _ _ _ _ _ hk hS hP hA R|exit i=>
  simp only[Am.blk]at hk;cases hb:aH i id with
  |true=>rw[hb]at hk;have:=aB hb;subst this;exact zdK (h .normal _ _ _ _ _ _ hk hS hP hA R)|false=>rw[hb]at hk;exact yrY hb (h (.exit i) _ _ _ _ _ _ hk hS hP hA R)
theorem OnK.nx{k:Ex->St->Option β}{r:β}{Q:Exit->Act->World->Prop}{g:St->Option β}{N:Act->World->Prop}(h:OnK N0 n B S0 E0 m0 D k r Q)(hn:∀σ S E L m w,g σ=some r->Mem.le S0 S->Pin N0 E0 E->Agr D m0 m->Rel n B S E L σ m w->N (fr n m) w):OnK N0 n B S0 E0 m0 D (nx k g) r (Exit.then N Q):=fun e σ S E L m w hk hS hP hA R=>by
 cases e with
 |normal=>exact hn _ _ _ _ _ _ hk hS hP hA R|ret=>exact h .ret _ _ _ _ _ _ hk hS hP hA R|exit i=>exact h (.exit i) _ _ _ _ _ _ hk hS hP hA R
theorem OnK.run(hm:P.follows .mixedOrders=true)(hτ:TEok P τ)(hΓ:CTok P Γ B){k:Ex->St->Option β}{r:β}{Q:Exit->Act->World->Prop}(h:OnK N0 n B S0 E0 m0 D k r Q){c:Code}(hD:∀t,hasN (ziD c) t=true->hasN D t=true):∀σ S E L m w,run N0 n τ Γ η c σ k=some r->Mem.le S0 S->Pin N0 E0 E->Agr D m0 m->Rel n B S E L σ m w->c.wp P Q (fr n m) w:=fun _σ _S _E _L _m _w hr hS hP hA R=>
 zoF hm hτ hΓ c R k r Q hr fun e σ' S' E' L' m' w' h1 h2 h3 h4 R1=>h e σ' S' E' L' m' w' h1 (Mem.le_trans hS h2) (hP.trans h3) (hA.trans (h4.mono hD)) R1
end
def τWkM:TE:=[(3,⟨.int .i64,1,[.v (.i .i64) (show Int from 0)],(.i .i64),8⟩),
 (4,⟨.b,1,[.v .b (show Bool from false)],.b,1⟩),
 (9,⟨.s,1,[.v .s (show Bs from [])],.s,16⟩),
 (36,⟨.sl 44,1,[.nils],(.sl (.pr (.i .i64) (.pr .s (.pr .s .s)))),24⟩),
 (37,⟨.pt 103,1,[.nilp],.un,8⟩),
 (40,⟨.sl 9,1,[.nils],(.sl .s),24⟩),
 (42,⟨.st [(40,0)],1,[.nils],(.pr (.sl .s) .un),24⟩),
 (44,⟨.st [(3,0),(9,1),(9,2),(9,3)],4,[.v (.i .i64) (show Int from 0),.v .s (show Bs from []),.v .s (show Bs from []),.v .s (show Bs from [])],(.pr (.i .i64) (.pr .s (.pr .s .s))),56⟩),
 (99,⟨.pt 117,1,[.nilp],(.pt (.pr .s (.pr .s .s))),8⟩),
 (101,⟨.sl 99,1,[.nils],(.sl (.pt (.pr .s (.pr .s .s)))),24⟩),
 (103,⟨.st [(101,0)],1,[.nils],(.pr (.sl (.pt (.pr .s (.pr .s .s)))) .un),24⟩),
 (117,⟨.st [(9,0),(9,1),(9,2),(24,3),(115,7),(26,10)],19,[.v .s (show Bs from []),.v .s (show Bs from []),.v .s (show Bs from []),.v (.i .u64) (show UInt64 from 0),.v (.i .u64) (show UInt64 from 0),.v (.i .u64) (show UInt64 from 0),.v (.i .u64) (show UInt64 from 0),.v (.i .u32) (show UInt32 from 0),.v (.i .i32) (show Int from 0),.v (.i .u32) (show UInt32 from 0),.v (.i .u64) (show UInt64 from 0),.v (.i .u64) (show UInt64 from 0),.v (.i .u64) (show UInt64 from 0),.v (.i .u64) (show UInt64 from 0),.v (.i .u64) (show UInt64 from 0),.v (.i .u64) (show UInt64 from 0),.v (.i .u64) (show UInt64 from 0),.v (.i .u64) (show UInt64 from 0),.v .b (show Bool from false)],(.pr .s (.pr .s (.pr .s (.pr (.pr (.i .u64) (.pr (.i .u64) (.pr (.i .u64) (.i .u64)))) (.pr (.pr .un (.pr (.pr .un (.i .u32)) (.pr .un (.pr (.i .i32) (.i .u32))))) (.pr (.pr (.i .u64) (.pr (.i .u64) (.pr (.i .u64) (.i .u64)))) (.pr (.pr (.i .u64) (.pr (.i .u64) (.pr (.i .u64) (.i .u64)))) .b))))))),168⟩)]
theorem τ_okWkM:TEok aD τWkM:=xeH (by kernel_rfl) (by kernel_rfl)
theorem zgY:Tryz.prog.follows .mixedOrders=true:=by kernel_rfl
abbrev xdL:Type:=Int×Bs×Bs×Bs
abbrev YWkM1:Ty:=.pr (.i .i64) (.pr .s (.pr .s .s))
abbrev zjJ:OSh:=.blk 103 [(.own 1)]
abbrev ynE:OSh:=.blk 103 [(.own 2)]
abbrev znI:OSh:=.blk 42 [(.own 1)]
abbrev yoW:OSh:=.blk 42 [(.own 3)]
def yyR:Nat×Hint:=(4000001,.sch (zpu 0 13))
section
variable {tabs:List (Nat×Obj)}[xaD tabs]
def zjC(v0:Bs):Option ((List (Bs×Bs×Bs))):=
 (yfA v0).bind fun v1=>some ([v1]:List (Bs×Bs×Bs))
def zoX:SC:=⟨⟨[(0,hS)],[]⟩,1,[(none,⟨[(0,(.ptr 0 0))],[zjJ,.osl (.pt (.pr .s (.pr .s .s))) 99]⟩)],fun x=>zjC x⟩
theorem zwY:SCok aD tabs 16 zoX:=wit (G:=tabs)<|zqD (η:=[]) (Γ:=⟨[(72,zpA)],[],false,[]⟩) zgY τ_okWkM (ctok ⟨zuA,trivial⟩ trivial) Tryz.func16 (isFn Tryz.func16) (by kernel_rfl) (by kernel_rfl) (by kernel_rfl)
def zcG(v0:Bs)(v1:List (Bs×Bs×Bs))(v2:Int)(v3:List (Bs×Bs×Bs)):Option ((Int×List (Bs×Bs×Bs))⊕(((Bs×Bs×Bs)×List (Bs×Bs×Bs))⊕(List (Bs×Bs×Bs)))):=
 bif decide (v2<(v1.length:Int))then((chk (decide ((0:Int)<=v2)&&decide (v2<(v3.length:Int)))).bind fun _=>(idx v3 v2).bind fun v4=>bif(v4.2.1==v0)then some (.inr (.inl (v4,v3)))else some (.inl (w64 (v2+1),v3)))else some (.inr (.inr v3))
def zfG(v0:Bs)(v1:List (Bs×Bs×Bs)):Option (((Bs×Bs×Bs)×List (Bs×Bs×Bs))⊕(List (Bs×Bs×Bs))):=
 (iter (fun x=>zcG v0 v1 x.1 x.2) ((0:Int),v1)).bind fun v5=>match v5 with
 |.inl v6=>some (.inl v6)|.inr v7=>some (.inr v7)
def ziP:SC:=⟨⟨[(0,(.ptr 0 0)),(1,hS)],[zjJ,.osl (.pt (.pr .s (.pr .s .s))) 99]⟩,1,[(none,⟨[(0,(.h (.pt (.pr .s (.pr .s .s)))))],[zjJ,.osl (.pt (.pr .s (.pr .s .s))) 99]⟩),(none,⟨[(0,.nilp)],[zjJ,.osl (.pt (.pr .s (.pr .s .s))) 99]⟩)],fun x=>zfG x.1 x.2⟩
theorem zmW:SCok aD tabs 73 ziP:=wit (G:=tabs)<|zqD (η:=[(200002,.loop [] ⟨[(10,(.own 1)),(12,hI)],[zjJ,.osl (.pt (.pr .s (.pr .s .s))) 99]⟩ [1,11] [(some 1000000,⟨[(4,(.h (.pt (.pr .s (.pr .s .s)))))],[zjJ,.osl (.pt (.pr .s (.pr .s .s))) 99]⟩),(some 0,⟨[],[zjJ,.osl (.pt (.pr .s (.pr .s .s))) 99]⟩)])]) (Γ:=⟨[],[],false,[]⟩) zgY τ_okWkM (ctok trivial trivial) Tryz.func73 (isFn Tryz.func73) (by kernel_rfl) (by kernel_rfl) (by kernel_rfl)
def zcD(v0:Bs)(v1:List (Bs×Bs×Bs)):Option ((Int×List (Bs×Bs×Bs))⊕(Int×List (Bs×Bs×Bs))):=
 (yfA v0).bind fun v2=>(zfG v2.2.1 v1).bind fun v3=>match v3 with
 |.inl v4=>some (.inl ((80:Int),v4.2))|.inr v5=>(bif((v5.length:Int)==8)then some (.inl ((82:Int),v5))else((app v5 ([v2]:List (Bs×Bs×Bs))).bind fun v6=>some (.inr ((0:Int),v6))))
def zmS:SC:=⟨⟨[(0,(.ptr 0 0)),(1,hS)],[zjJ,.osl (.pt (.pr .s (.pr .s .s))) 99]⟩,1,[(none,⟨[(0,hI)],[zjJ,.osl (.pt (.pr .s (.pr .s .s))) 99]⟩),(none,⟨[(0,hI)],[ynE,.dead,.osl (.pt (.pr .s (.pr .s .s))) 99]⟩)],fun x=>zcD x.1 x.2⟩
theorem zsU:SCok aD tabs 17 zmS:=wit (G:=tabs)<|zqD (η:=[]) (Γ:=⟨[(72,zpA)],[(73,ziP)],false,[]⟩) zgY τ_okWkM (ctok ⟨zuA,trivial⟩ ⟨zmW,trivial⟩) Tryz.func17 (isFn Tryz.func17) (by kernel_rfl) (by kernel_rfl) (by kernel_rfl)
def znK(v0:Bs):Option Bs:=
 (macP ([107,105,100]:Bs) v0).bind fun v1=>(subH v1 (9:Int)).bind fun v2=>(yaF v2).bind fun v3=>some v3
def zpE:PC:=⟨[hS],[.s],fun x=>znK x,false⟩
theorem zsM:PCok aD tabs 75 zpE:=wit (G:=tabs)<|ytA (η:=[]) (Γ:=⟨[(56,zjD),(130,zpC)],[],false,[]⟩) zgY τ_okWkM (ctok ⟨zlE,⟨zwQ,trivial⟩⟩ trivial) Tryz.func75 (isFn Tryz.func75) (by kernel_rfl) rfl (by kernel_rfl)
def ziF(v0:Bs)(v2:Int)(v3:List Bs):Option ((Int×List Bs)⊕((Int×List Bs)⊕List Bs)):=
 bif decide (v2<(v3.length:Int))then((chk (decide ((0:Int)<=v2)&&decide (v2<(v3.length:Int)))).bind fun _=>(idx v3 v2).bind fun v4=>(znK v4).bind fun v5=>bif(v5==v0)then some (.inr (.inl (v2,v3)))else some (.inl (w64 (v2+1),v3)))else some (.inr (.inr v3))
def zhB(v0:Bs)(v1:List Bs):Option ((Int×List Bs)):=
 (iter (fun x=>ziF v0 x.1 x.2) ((0:Int),v1)).bind fun v6=>match v6 with
 |.inl v7=>some v7|.inr v8=>some ((-1:Int),v8)
def zkI:SC:=⟨⟨[(0,(.ptr 0 0)),(1,hS)],[znI,.osl .s 9]⟩,1,[(none,⟨[(0,hI)],[znI,.osl .s 9]⟩)],fun x=>zhB x.1 x.2⟩
theorem zoH:SCok aD tabs 74 zkI:=wit (G:=tabs)<|zqD (η:=[(200002,.loop [] ⟨[(0,(.ptr 0 0)),(5,hI)],[znI,.osl .s 9]⟩ [1] [(some 1000000,⟨[(4,hI)],[znI,.osl .s 9]⟩),(some 0,⟨[],[znI,.osl .s 9]⟩)])]) (Γ:=⟨[(75,zpE)],[],false,[]⟩) zgY τ_okWkM (ctok ⟨zsM,trivial⟩ trivial) Tryz.func74 (isFn Tryz.func74) (by kernel_rfl) (by kernel_rfl) (by kernel_rfl)
def zbM(v0:Bs)(v1:List Bs):Option ((Int×List Bs)⊕(Int×List Bs)):=
 (znK v0).bind fun v2=>(zhB v2 v1).bind fun v3=>bif decide (v3.1≥0)then some (.inl ((80:Int),v3.2))else(bif decide ((v3.2.length:Int)≥8)then some (.inl ((82:Int),v3.2))else((app v3.2 ([v0]:List Bs)).bind fun v4=>some (.inr ((0:Int),v4))))
def zoZ:SC:=⟨⟨[(0,(.ptr 0 0)),(1,hS)],[znI,.osl .s 9]⟩,1,[(none,⟨[(0,hI)],[znI,.osl .s 9]⟩),(none,⟨[(0,hI)],[.blk 42 [(.own 2)],.dead,.osl .s 9]⟩)],fun x=>zbM x.1 x.2⟩
theorem zvY:SCok aD tabs 18 zoZ:=wit (G:=tabs)<|zqD (η:=[]) (Γ:=⟨[(75,zpE)],[(74,zkI)],false,[]⟩) zgY τ_okWkM (ctok ⟨zsM,trivial⟩ ⟨zoH,trivial⟩) Tryz.func18 (isFn Tryz.func18) (by kernel_rfl) (by kernel_rfl) (by kernel_rfl)
def zfO(v0:List (Bs×Bs×Bs)):Option (((Bs×Bs×Bs)×List (Bs×Bs×Bs))):=
 (chk (decide ((0:Int)<=w64 ((v0.length:Int)-1))&&decide (w64 ((v0.length:Int)-1)<(v0.length:Int)))).bind fun _=>(idx v0 (w64 ((v0.length:Int)-1))).bind fun v1=>some (v1,v0)
def zkK:SC:=⟨⟨[(0,(.ptr 0 0))],[zjJ,.osl (.pt (.pr .s (.pr .s .s))) 99]⟩,1,[(none,⟨[(0,(.h (.pt (.pr .s (.pr .s .s)))))],[zjJ,.osl (.pt (.pr .s (.pr .s .s))) 99]⟩)],fun x=>zfO x⟩
theorem zrE:SCok aD tabs 76 zkK:=wit (G:=tabs)<|zqD (η:=[yyR]) (Γ:=⟨[],[],false,[]⟩) zgY τ_okWkM (ctok trivial trivial) Tryz.func76 (isFn Tryz.func76) (by kernel_rfl) (by kernel_rfl) (by kernel_rfl)
def zhT(v0:Bs)(v1:List (Bs×Bs×Bs)):Option ((Bs×Bs×List (Bs×Bs×Bs))):=
 (zfO v1).bind fun v2=>(macP v2.1.2.2 v0).bind fun v3=>some (v2.1.2.1,v3,v2.2)
def zoD:SC:=⟨⟨[(0,(.ptr 0 0)),(1,hS)],[zjJ,.osl (.pt (.pr .s (.pr .s .s))) 99]⟩,2,[(none,⟨[(0,hS),(1,hS)],[zjJ,.osl (.pt (.pr .s (.pr .s .s))) 99]⟩)],fun x=>zhT x.1 x.2⟩
theorem zuO:SCok aD tabs 19 zoD:=wit (G:=tabs)<|zqD (η:=[(4000002,.sch (zpu 0 9++[(.mn,9,[]),(.pu,10,[]),(.pu,11,[])]))]) (Γ:=⟨[(46,zrF)],[(76,zkK)],false,[]⟩) zgY τ_okWkM (ctok ⟨zxS,trivial⟩ ⟨zrE,trivial⟩) Tryz.func19 (isFn Tryz.func19) (by kernel_rfl) (by kernel_rfl) (by kernel_rfl)
def zfH(v0:List Bs):Option ((Bs×List Bs)):=
 (chk (decide ((0:Int)<=w64 ((v0.length:Int)-1))&&decide (w64 ((v0.length:Int)-1)<(v0.length:Int)))).bind fun _=>(idx v0 (w64 ((v0.length:Int)-1))).bind fun v1=>some (v1,v0)
def zmL:SC:=⟨⟨[(0,(.ptr 0 0))],[znI,.osl .s 9]⟩,1,[(none,⟨[(0,hS)],[znI,.osl .s 9]⟩)],fun x=>zfH x⟩
theorem zsV:SCok aD tabs 77 zmL:=wit (G:=tabs)<|zqD (η:=[yyR]) (Γ:=⟨[],[],false,[]⟩) zgY τ_okWkM (ctok trivial trivial) Tryz.func77 (isFn Tryz.func77) (by kernel_rfl) (by kernel_rfl) (by kernel_rfl)
def zkH(v0:Bs):Option Bs:=
 (macP ([109,97,99]:Bs) v0).bind fun v1=>some v1
def zoP:PC:=⟨[hS],[.s],fun x=>zkH x,false⟩
theorem zuF:PCok aD tabs 78 zoP:=wit (G:=tabs)<|ytA (η:=[]) (Γ:=⟨[(56,zjD)],[],false,[]⟩) zgY τ_okWkM (ctok ⟨zlE,trivial⟩ trivial) Tryz.func78 (isFn Tryz.func78) (by kernel_rfl) rfl (by kernel_rfl)
def zjZ(v0:Bs)(v1:List Bs):Option ((Bs×Bs×List Bs)):=
 (zfH v1).bind fun v2=>(znK v2.1).bind fun v3=>(zfH v2.2).bind fun v4=>(zkH v4.1).bind fun v5=>(macP v5 v0).bind fun v6=>some (v3,v6,v4.2)
def zqH:SC:=⟨⟨[(0,(.ptr 0 0)),(1,hS)],[znI,.osl .s 9]⟩,2,[(none,⟨[(0,hS),(1,hS)],[znI,.osl .s 9]⟩)],fun x=>zjZ x.1 x.2⟩
theorem zyD:SCok aD tabs 20 zqH:=wit (G:=tabs)<|zqD (η:=[]) (Γ:=⟨[(75,zpE),(78,zoP),(56,zjD)],[(77,zmL)],false,[]⟩) zgY τ_okWkM (ctok ⟨zsM,⟨zuF,⟨zlE,trivial⟩⟩⟩ ⟨zsV,trivial⟩) Tryz.func20 (isFn Tryz.func20) (by kernel_rfl) (by kernel_rfl) (by kernel_rfl)
def zgL(v0:Bs)(v1:Bs)(v2:Bs)(v3:List (Bs×Bs×Bs)):Option ((Bool×List (Bs×Bs×Bs))):=
 (zfG v0 v3).bind fun v4=>match v4 with
 |.inl v5=>((macP v5.1.2.2 v1).bind fun v7=>(ytX v7 v2).bind fun v8=>some (v8,v5.2))|.inr v6=>some (false,v6)
def zlP:SC:=⟨⟨[(0,(.ptr 0 0)),(1,hS),(2,hS),(3,hS)],[zjJ,.osl (.pt (.pr .s (.pr .s .s))) 99]⟩,1,[(none,⟨[(0,hB)],[zjJ,.osl (.pt (.pr .s (.pr .s .s))) 99]⟩)],fun x=>zgL x.1 x.2.1 x.2.2.1 x.2.2.2⟩
theorem zsE:SCok aD tabs 21 zlP:=wit (G:=tabs)<|zqD (η:=[]) (Γ:=⟨[(46,zrF),(79,ztT)],[(73,ziP)],false,[]⟩) zgY τ_okWkM (ctok ⟨zxS,⟨ycV,trivial⟩⟩ ⟨zmW,trivial⟩) Tryz.func21 (isFn Tryz.func21) (by kernel_rfl) (by kernel_rfl) (by kernel_rfl)
def zhZ(v0:Bs)(v1:Bs)(v2:Bs)(v3:List Bs):Option ((Bool×List Bs)):=
 (zhB v0 v3).bind fun v4=>bif decide (v4.1≥0)then((chk (decide ((0:Int)<=v4.1)&&decide (v4.1<(v4.2.length:Int)))).bind fun _=>(idx v4.2 v4.1).bind fun v5=>(zkH v5).bind fun v6=>(macP v6 v1).bind fun v7=>some ((v7==v2),v4.2))else some (false,v4.2)
def zoB:SC:=⟨⟨[(0,(.ptr 0 0)),(1,hS),(2,hS),(3,hS)],[znI,.osl .s 9]⟩,1,[(none,⟨[(0,hB)],[znI,.osl .s 9]⟩)],fun x=>zhZ x.1 x.2.1 x.2.2.1 x.2.2.2⟩
theorem zuN:SCok aD tabs 22 zoB:=wit (G:=tabs)<|zqD (η:=[]) (Γ:=⟨[(78,zoP),(56,zjD)],[(74,zkI)],false,[]⟩) zgY τ_okWkM (ctok ⟨zuF,⟨zlE,trivial⟩⟩ ⟨zoH,trivial⟩) Tryz.func22 (isFn Tryz.func22) (by kernel_rfl) (by kernel_rfl) (by kernel_rfl)
def yuP:SC:=⟨⟨[(0,(.h (.sl (.pt (.pr .s (.pr .s .s))))))],[]⟩,1,[(none,⟨[(0,(.own 0))],[.osl (.pt (.pr .s (.pr .s .s))) 99]⟩)],fun xs=>app [] xs⟩
theorem yvW:SCok aD tabs 80 yuP:=wit (G:=tabs)<|ywI zgY τ_okWkM Tryz.func80 (isFn Tryz.func80) rfl (by kernel_rfl) (by kernel_rfl) (by kernel_rfl) (fun _=>by kernel_rfl)
def ydP:SC:=⟨⟨[(0,(.own 0))],[.osl (.pt (.pr .s (.pr .s .s))) 99]⟩,1,[(none,⟨[(0,(.own 1))],[.osl (.pt (.pr .s (.pr .s .s))) 99,.osl (.pt (.pr .s (.pr .s .s))) 99]⟩)],fun(xs:List (Bs×Bs×Bs))=>(app [] xs).bind fun r=>some (xs,r)⟩
theorem yqV:SCok aD tabs 80 ydP:=wit (G:=tabs)<|ylJ rfl yvW
def zgK(v0:List (Bs×Bs×Bs)):Option (((List (Bs×Bs×Bs))×List (Bs×Bs×Bs))):=
 ((fun(xs:List (Bs×Bs×Bs))=>(app ([]:List (Bs×Bs×Bs)) xs).bind fun r=>some (xs,r)) v0).bind fun v1=>some v1
def zlS:SC:=⟨⟨[(0,(.ptr 0 0))],[zjJ,.osl (.pt (.pr .s (.pr .s .s))) 99]⟩,1,[(none,⟨[(0,(.ptr 2 0))],[zjJ,.osl (.pt (.pr .s (.pr .s .s))) 99,.blk 103 [(.own 3)],.osl (.pt (.pr .s (.pr .s .s))) 99]⟩)],fun x=>zgK x⟩
theorem zsN:SCok aD tabs 23 zlS:=wit (G:=tabs)<|zqD (η:=[]) (Γ:=⟨[],[(80,ydP)],false,[]⟩) zgY τ_okWkM (ctok trivial ⟨yqV,trivial⟩) Tryz.func23 (isFn Tryz.func23) (by kernel_rfl) (by kernel_rfl) (by kernel_rfl)
def ziJ(v0:List Bs):Option (((List Bs)×List Bs)):=
 (app ([]:List Bs) v0).bind fun v1=>some (v0,v1)
def znX:SC:=⟨⟨[(0,(.ptr 0 0))],[znI,.osl .s 9]⟩,1,[(none,⟨[(0,(.ptr 2 0))],[znI,.osl .s 9,yoW,.osl .s 9]⟩)],fun x=>ziJ x⟩
theorem zuJ:SCok aD tabs 24 znX:=wit (G:=tabs)<|zqD (η:=[]) (Γ:=⟨[],[],false,[]⟩) zgY τ_okWkM (ctok trivial trivial) Tryz.func24 (isFn Tryz.func24) (by kernel_rfl) (by kernel_rfl) (by kernel_rfl)
def zcF(v0:List (Bs×Bs×Bs))(v1:Int)(v2:List (Bs×Bs×Bs))(v3:List Bs):Option ((Int×(List (Bs×Bs×Bs))×List Bs)⊕(((List (Bs×Bs×Bs))×List Bs))):=
 bif decide (v1<(v0.length:Int))then((chk (decide ((0:Int)<=v1)&&decide (v1<(v2.length:Int)))).bind fun _=>(idx v2 v1).bind fun v4=>(app v3 ([v4.2.1]:List Bs)).bind fun v5=>some (.inl (w64 (v1+1),v2,v5)))else some (.inr (v2,v3))
def zaS(v0:List (Bs×Bs×Bs)):Option (((List (Bs×Bs×Bs))×List Bs)):=
 (iter (fun x=>zcF v0 x.1 x.2.1 x.2.2) ((0:Int),v0,([]:List Bs))).bind fun v6=>some v6
def zmP:SC:=⟨⟨[(0,(.ptr 0 0))],[zjJ,.osl (.pt (.pr .s (.pr .s .s))) 99]⟩,1,[(none,⟨[(0,(.own 2))],[zjJ,.osl (.pt (.pr .s (.pr .s .s))) 99,.osl .s 9]⟩)],fun x=>zaS x⟩
theorem zsW:SCok aD tabs 26 zmP:=wit (G:=tabs)<|zqD (η:=[(200003,.loop [.sl 3 .s 9] ⟨[(3,(.own 2)),(9,(.own 1)),(11,hI)],[zjJ,.osl (.pt (.pr .s (.pr .s .s))) 99,.osl .s 9]⟩ [2,10] [(some 0,⟨[(3,(.own 2))],[zjJ,.osl (.pt (.pr .s (.pr .s .s))) 99,.osl .s 9]⟩)])]) (Γ:=⟨[],[],false,[]⟩) zgY τ_okWkM (ctok trivial trivial) Tryz.func26 (isFn Tryz.func26) (by kernel_rfl) (by kernel_rfl) (by kernel_rfl)
def zhV(v1:Int)(v2:List Bs)(v3:List Bs):Option ((Int×(List Bs)×List Bs)⊕(((List Bs)×List Bs))):=
 bif decide (v1<(v2.length:Int))then((chk (decide ((0:Int)<=v1)&&decide (v1<(v2.length:Int)))).bind fun _=>(idx v2 v1).bind fun v4=>(znK v4).bind fun v5=>(app v3 ([v5]:List Bs)).bind fun v6=>some (.inl (w64 (v1+1),v2,v6)))else some (.inr (v2,v3))
def zaZ(v0:List Bs):Option (((List Bs)×List Bs)):=
 (iter (fun x=>zhV x.1 x.2.1 x.2.2) ((0:Int),v0,([]:List Bs))).bind fun v7=>some v7
def zpD:SC:=⟨⟨[(0,(.ptr 0 0))],[znI,.osl .s 9]⟩,1,[(none,⟨[(0,(.own 2))],[znI,.osl .s 9,.osl .s 9]⟩)],fun x=>zaZ x⟩
theorem zwD:SCok aD tabs 27 zpD:=wit (G:=tabs)<|zqD (η:=[(200003,.loop [] ⟨[(0,(.ptr 0 0)),(3,(.own 2)),(4,hI)],[znI,.osl .s 9,.osl .s 9]⟩ [2] [(some 0,⟨[(3,(.own 2))],[znI,.osl .s 9,.osl .s 9]⟩)])]) (Γ:=⟨[(75,zpE)],[],false,[]⟩) zgY τ_okWkM (ctok ⟨zsM,trivial⟩ trivial) Tryz.func27 (isFn Tryz.func27) (by kernel_rfl) (by kernel_rfl) (by kernel_rfl)
def ziI(v0:List Bs)(v1:List Bs)(v2:Int):Option (Int⊕(Bool⊕Unit)):=
 bif decide (v2<(v0.length:Int))then((idx v0 v2).bind fun v3=>(idx v1 v2).bind fun v4=>bif(v3 != v4)then some (.inr (.inl false))else some (.inl (w64 (v2+1))))else some (.inr (.inr ()))
def zaV(v0:List Bs)(v1:List Bs):Option (Bool):=
 bif((v0.length:Int) != (v1.length:Int))then(some false)else((iter (ziI v0 v1) (0:Int)).bind fun v5=>match v5 with
 |.inl v6=>(some v6)|.inr _v7=>(some true))
def zoU:PC:=⟨[(.h (.sl .s)),(.h (.sl .s))],[.b],fun x=>zaV x.1 x.2,false⟩
theorem zvR:PCok aD tabs 25 zoU:=wit (G:=tabs)<|ytA (η:=[(200004,.loop [] ⟨[(5,hI)],[]⟩ [0,1] [(some 1000000,⟨[(4,hB)],[]⟩),(some 0,⟨[],[]⟩)]),
 (4000006,.sch (zpu 0 9))]) (Γ:=⟨[],[],false,[]⟩) zgY τ_okWkM (ctok trivial trivial) Tryz.func25 (isFn Tryz.func25) (by kernel_rfl) rfl (by kernel_rfl)
def zfP(v0:List (Bs×Bs×Bs))(v1:Int)(v2:List (Bs×Bs×Bs))(v3:List Bs):Option ((Int×(List (Bs×Bs×Bs))×List Bs)⊕(((List (Bs×Bs×Bs))×List Bs))):=
 bif decide (v1<(v0.length:Int))then((chk (decide ((0:Int)<=v1)&&decide (v1<(v2.length:Int)))).bind fun _=>(idx v2 v1).bind fun v4=>(app v3 ([v4.1]:List Bs)).bind fun v5=>some (.inl (w64 (v1+1),v2,v5)))else some (.inr (v2,v3))
def zgP(v0:List (Bs×Bs×Bs)):Option (((List (Bs×Bs×Bs))×List Bs)):=
 (iter (fun x=>zfP v0 x.1 x.2.1 x.2.2) ((0:Int),v0,([]:List Bs))).bind fun v6=>some v6
def zlJ:SC:=⟨⟨[(0,(.ptr 0 0))],[zjJ,.osl (.pt (.pr .s (.pr .s .s))) 99]⟩,1,[(none,⟨[(0,(.own 2))],[zjJ,.osl (.pt (.pr .s (.pr .s .s))) 99,.osl .s 9]⟩)],fun x=>zgP x⟩
theorem zsG:SCok aD tabs 28 zlJ:=wit (G:=tabs)<|zqD (η:=[(200003,.loop [.sl 3 .s 9] ⟨[(3,(.own 2)),(9,(.own 1)),(11,hI)],[zjJ,.osl (.pt (.pr .s (.pr .s .s))) 99,.osl .s 9]⟩ [2,10] [(some 0,⟨[(3,(.own 2))],[zjJ,.osl (.pt (.pr .s (.pr .s .s))) 99,.osl .s 9]⟩)])]) (Γ:=⟨[],[],false,[]⟩) zgY τ_okWkM (ctok trivial trivial) Tryz.func28 (isFn Tryz.func28) (by kernel_rfl) (by kernel_rfl) (by kernel_rfl)
def zlR(v0:Bs)(v2:(List (Bs×Bs×Bs))):Option (Bool⊕((List (Bs×Bs×Bs))×List Bs)):=
 (some true).bind fun v3=>bif(!v3)then some (.inl false)else some (.inr (v2,([v0]:List Bs)))
def zhW(v8:List (Bs×Bs×Bs))(v9:List Bs)(v10:xdL):Option (Bool⊕((List (Bs×Bs×Bs))×List Bs)):=
 bif(v10.1==0)then((zcD v10.2.1 v8).bind fun v11=>match v11 with
 |.inl v12=>((zbM v10.2.1 v9).bind fun v14=>match v14 with
 |.inl v15=>(bif(v12.1 != v15.1)then some (.inl false)else some (.inr (v12.2,v15.2)))|.inr v16=>(bif(v12.1 != v16.1)then some (.inl false)else some (.inr (v12.2,v16.2))))
 |.inr v13=>((zbM v10.2.1 v9).bind fun v17=>match v17 with
 |.inl v18=>(bif(v13.1 != v18.1)then some (.inl false)else some (.inr (v13.2,v18.2)))|.inr v19=>(bif(v13.1 != v19.1)then some (.inl false)else some (.inr (v13.2,v19.2)))))else(bif(v10.1==1)then((zhT v10.2.1 v8).bind fun v20=>(zjZ v10.2.1 v9).bind fun v21=>bif(v20.1 != v21.1)then some (.inl false)else(bif(v20.2.1 != v21.2.1)then some (.inl false)else some (.inr (v20.2.2,v21.2.2))))else(bif(v10.1==2)then((zgL v10.2.2.1 v10.2.1 v10.2.2.2 v8).bind fun v22=>(zhZ v10.2.2.1 v10.2.1 v10.2.2.2 v9).bind fun v23=>bif(v22.1 != v23.1)then some (.inl false)else some (.inr (v22.2,v23.2)))else(bif(v10.1==3)then((zgK v8).bind fun v24=>some (.inr (v24.2,v9)))else(bif(v10.1==4)then((zgK v8).bind fun v25=>(ziJ v9).bind fun v26=>(zcD v10.2.1 v25.2).bind fun v27=>match v27 with
 |.inl v28=>((zbM v10.2.1 v26.2).bind fun v30=>match v30 with
 |.inl v31=>(bif(v28.1 != v31.1)then some (.inl false)else((zcD v10.2.2.1 v25.1).bind fun v33=>match v33 with
 |.inl v34=>((zbM v10.2.2.1 v26.1).bind fun v36=>match v36 with
 |.inl v37=>(bif(v34.1 != v37.1)then some (.inl false)else((zaS v28.2).bind fun v39=>(zaZ v31.2).bind fun v40=>(zaV v39.2 v40.2).bind fun v41=>bif(!v41)then some (.inl false)else some (.inr (v34.2,v37.2))))|.inr v38=>(bif(v34.1 != v38.1)then some (.inl false)else((zaS v28.2).bind fun v42=>(zaZ v31.2).bind fun v43=>(zaV v42.2 v43.2).bind fun v44=>bif(!v44)then some (.inl false)else some (.inr (v34.2,v38.2)))))
 |.inr v35=>((zbM v10.2.2.1 v26.1).bind fun v45=>match v45 with
 |.inl v46=>(bif(v35.1 != v46.1)then some (.inl false)else((zaS v28.2).bind fun v48=>(zaZ v31.2).bind fun v49=>(zaV v48.2 v49.2).bind fun v50=>bif(!v50)then some (.inl false)else some (.inr (v35.2,v46.2))))|.inr v47=>(bif(v35.1 != v47.1)then some (.inl false)else((zaS v28.2).bind fun v51=>(zaZ v31.2).bind fun v52=>(zaV v51.2 v52.2).bind fun v53=>bif(!v53)then some (.inl false)else some (.inr (v35.2,v47.2)))))))
 |.inr v32=>(bif(v28.1 != v32.1)then some (.inl false)else((zcD v10.2.2.1 v25.1).bind fun v54=>match v54 with
 |.inl v55=>((zbM v10.2.2.1 v26.1).bind fun v57=>match v57 with
 |.inl v58=>(bif(v55.1 != v58.1)then some (.inl false)else((zaS v28.2).bind fun v60=>(zaZ v32.2).bind fun v61=>(zaV v60.2 v61.2).bind fun v62=>bif(!v62)then some (.inl false)else some (.inr (v55.2,v58.2))))|.inr v59=>(bif(v55.1 != v59.1)then some (.inl false)else((zaS v28.2).bind fun v63=>(zaZ v32.2).bind fun v64=>(zaV v63.2 v64.2).bind fun v65=>bif(!v65)then some (.inl false)else some (.inr (v55.2,v59.2)))))
 |.inr v56=>((zbM v10.2.2.1 v26.1).bind fun v66=>match v66 with
 |.inl v67=>(bif(v56.1 != v67.1)then some (.inl false)else((zaS v28.2).bind fun v69=>(zaZ v32.2).bind fun v70=>(zaV v69.2 v70.2).bind fun v71=>bif(!v71)then some (.inl false)else some (.inr (v56.2,v67.2))))|.inr v68=>(bif(v56.1 != v68.1)then some (.inl false)else((zaS v28.2).bind fun v72=>(zaZ v32.2).bind fun v73=>(zaV v72.2 v73.2).bind fun v74=>bif(!v74)then some (.inl false)else some (.inr (v56.2,v68.2))))))))
 |.inr v29=>((zbM v10.2.1 v26.2).bind fun v75=>match v75 with
 |.inl v76=>(bif(v29.1 != v76.1)then some (.inl false)else((zcD v10.2.2.1 v25.1).bind fun v78=>match v78 with
 |.inl v79=>((zbM v10.2.2.1 v26.1).bind fun v81=>match v81 with
 |.inl v82=>(bif(v79.1 != v82.1)then some (.inl false)else((zaS v29.2).bind fun v84=>(zaZ v76.2).bind fun v85=>(zaV v84.2 v85.2).bind fun v86=>bif(!v86)then some (.inl false)else some (.inr (v79.2,v82.2))))|.inr v83=>(bif(v79.1 != v83.1)then some (.inl false)else((zaS v29.2).bind fun v87=>(zaZ v76.2).bind fun v88=>(zaV v87.2 v88.2).bind fun v89=>bif(!v89)then some (.inl false)else some (.inr (v79.2,v83.2)))))
 |.inr v80=>((zbM v10.2.2.1 v26.1).bind fun v90=>match v90 with
 |.inl v91=>(bif(v80.1 != v91.1)then some (.inl false)else((zaS v29.2).bind fun v93=>(zaZ v76.2).bind fun v94=>(zaV v93.2 v94.2).bind fun v95=>bif(!v95)then some (.inl false)else some (.inr (v80.2,v91.2))))|.inr v92=>(bif(v80.1 != v92.1)then some (.inl false)else((zaS v29.2).bind fun v96=>(zaZ v76.2).bind fun v97=>(zaV v96.2 v97.2).bind fun v98=>bif(!v98)then some (.inl false)else some (.inr (v80.2,v92.2)))))))
 |.inr v77=>(bif(v29.1 != v77.1)then some (.inl false)else((zcD v10.2.2.1 v25.1).bind fun v99=>match v99 with
 |.inl v100=>((zbM v10.2.2.1 v26.1).bind fun v102=>match v102 with
 |.inl v103=>(bif(v100.1 != v103.1)then some (.inl false)else((zaS v29.2).bind fun v105=>(zaZ v77.2).bind fun v106=>(zaV v105.2 v106.2).bind fun v107=>bif(!v107)then some (.inl false)else some (.inr (v100.2,v103.2))))|.inr v104=>(bif(v100.1 != v104.1)then some (.inl false)else((zaS v29.2).bind fun v108=>(zaZ v77.2).bind fun v109=>(zaV v108.2 v109.2).bind fun v110=>bif(!v110)then some (.inl false)else some (.inr (v100.2,v104.2)))))
 |.inr v101=>((zbM v10.2.2.1 v26.1).bind fun v111=>match v111 with
 |.inl v112=>(bif(v101.1 != v112.1)then some (.inl false)else((zaS v29.2).bind fun v114=>(zaZ v77.2).bind fun v115=>(zaV v114.2 v115.2).bind fun v116=>bif(!v116)then some (.inl false)else some (.inr (v101.2,v112.2))))|.inr v113=>(bif(v101.1 != v113.1)then some (.inl false)else((zaS v29.2).bind fun v117=>(zaZ v77.2).bind fun v118=>(zaV v117.2 v118.2).bind fun v119=>bif(!v119)then some (.inl false)else some (.inr (v101.2,v113.2)))))))))else some (.inr (v8,v9))))))
def ziB(v122:(List (Bs×Bs×Bs))×List Bs)(v123:((List (Bs×Bs×Bs))×List Bs))(v124:((List (Bs×Bs×Bs))×List Bs)):Option (Bool⊕((List Bs)×(List Bs)×(List (Bs×Bs×Bs))×List Bs)):=
 (zaZ v122.2).bind fun v125=>(zaV v123.2 v125.2).bind fun v126=>bif(!v126)then some (.inl false)else((zaV v124.2 v125.1).bind fun v127=>bif(!v127)then some (.inl false)else some (.inr (v123.2,v124.2,v124.1,v125.1)))
def zeR(v131:Int)(v132:List Bs)(v133:List Bs)(v134:List (Bs×Bs×Bs))(v135:List Bs):Option ((Int×(List Bs)×(List Bs)×(List (Bs×Bs×Bs))×List Bs)⊕(((List (Bs×Bs×Bs))×List Bs))):=
 bif decide (v131<(v132.length:Int))then((chk (decide ((0:Int)<=v131)&&decide (v131<(v132.length:Int)))).bind fun _=>(setL v132 v131 ([115,112,111,105,108,116]:Bs)).bind fun v136=>(chk (decide ((0:Int)<=v131)&&decide (v131<(v133.length:Int)))).bind fun _=>(setL v133 v131 ([115,112,111,105,108,116]:Bs)).bind fun v137=>some (.inl (w64 (v131+1),v136,v137,v134,v135)))else some (.inr (v134,v135))
def zfZ(v1:List xdL)(v7:Int)(v8:List (Bs×Bs×Bs))(v9:List Bs):Option ((Int×(List (Bs×Bs×Bs))×List Bs)⊕(Bool⊕Unit)):=
 bif decide (v7<(v1.length:Int))then((idx v1 v7).bind fun v10=>(zhW v8 v9 v10).bind fun v120=>match v120 with
 |.inl v121=>some (.inr (.inl v121))|.inr v122=>((zaS v122.1).bind fun v123=>(zgP v123.1).bind fun v124=>(ziB v122 v123 v124).bind fun v128=>match v128 with
 |.inl v129=>some (.inr (.inl v129))|.inr v130=>((iter (fun x=>zeR x.1 x.2.1 x.2.2.1 x.2.2.2.1 x.2.2.2.2) ((0:Int),v130)).bind fun v138=>some (.inl (w64 (v7+1),v138)))))else some (.inr (.inr ()))
def ziW(v0:Bs)(v1:List xdL):Option (Bool):=
 (zjC v0).bind fun v2=>(zlR v0 v2).bind fun v4=>match v4 with
 |.inl v5=>(some v5)|.inr v6=>((iter (fun x=>zfZ v1 x.1 x.2.1 x.2.2) ((0:Int),v6)).bind fun v139=>match v139 with
 |.inl v140=>(some v140)|.inr _v141=>(some true))
def zrP:PC:=⟨[hS,(.h (.sl YWkM1))],[.b],fun x=>ziW x.1 x.2,false⟩
theorem yiY:PCok aD tabs 6 zrP:=wit (G:=tabs)<|ytA (η:=[(2000005,.join [] [1] [(some 1000000,⟨[(4,hB)],[]⟩),(none,⟨[(5,(.ptr 0 0)),(6,(.ptr 1 0))],[ynE,yoW,.osl (.pt (.pr .s (.pr .s .s))) 99,.osl .s 9]⟩)]),
 (2000027,.join [] [1,7] [(some 1000000,⟨[(4,hB)],[]⟩),(none,⟨[(5,(.ptr 0 0)),(6,(.ptr 1 0))],[ynE,yoW,.osl (.pt (.pr .s (.pr .s .s))) 99,.osl .s 9]⟩)]),
 (2000032,.join [] [1,7] [(some 1000000,⟨[(4,hB)],[]⟩),(none,⟨[(5,(.ptr 0 0)),(6,(.ptr 1 0)),(15,(.own 2)),(16,(.own 3))],[.blk 103 [(.own 4)],.blk 42 [(.own 5)],.osl .s 9,.osl .s 9,.osl (.pt (.pr .s (.pr .s .s))) 99,.osl .s 9]⟩)]),
 (200033,.loop [] ⟨[(5,(.ptr 0 0)),(6,(.ptr 1 0)),(15,(.own 2)),(16,(.own 3)),(17,hI)],[.blk 103 [(.own 4)],.blk 42 [(.own 5)],.osl .s 9,.osl .s 9,.osl (.pt (.pr .s (.pr .s .s))) 99,.osl .s 9]⟩ [1,7] [(some 3,⟨[(5,(.ptr 0 0)),(6,(.ptr 1 0))],[ynE,yoW,.osl (.pt (.pr .s (.pr .s .s))) 99,.osl .s 9]⟩)]),
 (200006,.loop [] ⟨[(5,(.ptr 0 0)),(6,(.ptr 1 0)),(7,hI)],[ynE,yoW,.osl (.pt (.pr .s (.pr .s .s))) 99,.osl .s 9]⟩ [1] [(some 1000000,⟨[(4,hB)],[]⟩),(some 0,⟨[],[]⟩)]),
 (4000011,.sch (zpu 0 3++[(.pu,4,[0,2]),(.pu,5,[0,2]),(.pu,6,[0,2]),(.mn,3,[0,2]),(.mn,7,[1,3]),(.pu,8,[])])),
 (4000019,.sch (zpu 0 7++[(.pu,8,[0,2]),(.pu,9,[0,2]),(.pu,10,[0,2]),(.pu,11,[0,2]),(.pu,12,[0,2]),(.pu,13,[0,2]),(.pu,14,[0,2]),(.mn,7,[0,2]),(.mn,15,[1,3]),(.pu,16,[])])),
 (4000025,.sch (zpu 0 6++[(.pu,7,[6,7]),(.pu,8,[6,7]),(.pu,9,[6,7]),(.mn,6,[6,7]),(.mn,10,[9,10])]++zpu 11 6++[(.pu,18,[0,2]),(.pu,19,[0,2]),(.pu,20,[0,2]),(.mn,17,[0,2]),(.mn,21,[1,3])]++zpu 22 4++[(.pu,27,[6,7,12]),(.mn,26,[6,7,12]),(.mn,28,[9,10,13,14]),(.mn,29,[]),(.pu,30,[]),(.pu,31,[])]))]) (Γ:=⟨[(11,yiE),(25,zoU)],[(16,zoX),(17,zmS),(18,zoZ),(19,zoD),(20,zqH),(21,zlP),(22,zoB),(23,zlS),(24,znX),(26,zmP),(27,zpD),(28,zlJ)],false,[]⟩) zgY τ_okWkM (ctok ⟨yuF,⟨zvR,trivial⟩⟩ ⟨zwY,⟨zsU,⟨zvY,⟨zuO,⟨zyD,⟨zsE,⟨zuN,⟨zsN,⟨zuJ,⟨zsW,⟨zwD,⟨zsG,trivial⟩⟩⟩⟩⟩⟩⟩⟩⟩⟩⟩⟩) Tryz.func6 (isFn Tryz.func6) (by kernel_rfl) rfl (by kernel_rfl)
end
end Go.Proofs.YtmbcolbbekbccaaGreat.Am
namespace Go.Proofs.YtmbcolbbekbccaaGreat
open Go Go.RowKit
section
open Go Go.RowKit Go.ChangeShapes Go.WideShapes Go.ChangeAt
section
variable {H:Type}{enc:TypeId×Value->H}{P:Program}{W W':World}
theorem zwZ(hl:laidOutB P=true)(hx:Below W.heap.size W W'):∀{ts:List TypeId} {vs:LV} {ds:List (DataW H)} {ps:List MemPlace},ts.all (fun t=>P.readableRec t&&decide (t<P.types.size))=true ->
  DataW.TrodAll enc P W 0 (fun _=>true) true ts vs ds ps->(∀x∈ps,x.block<W.heap.size)->DataW.TrodAll enc P W' 0 (fun b=>decide (b<W.heap.size)) true ts vs ds ps
 |[],vs,ds,ps,_,h,_=>by obtain⟨rfl,rfl,rfl⟩:=trodAll_nil h;exact trodAll_mk0
 |t::ts,vs,ds,ps,ha,h,hlt=>by
  obtain⟨v,vs',d,ds',p,q,rfl,rfl,rfl,h0,hr⟩:=trodAll_cons h;simp only[List.all_cons,aL,zD]at ha
  exact trodAll_cons_mk (Below.trod hl ha.1.1 ha.1.2 h0 hx fun x hx=>hlt x (cG.2 (.inl hx)))
   (zwZ hl hx ha.2 hr fun x hx=>hlt x (cG.2 (.inr hx)))
theorem trodAll_length:∀{ts:List TypeId} {vs:LV} {ds:List (DataW H)} {ps:List MemPlace} {w:World} {b:Nat} {sp:Nat->Bool} {hd:Bool},DataW.TrodAll enc P w b sp hd ts vs ds ps->vs.length=ts.length/\ds.length=ts.length
 |[],vs,ds,ps,_,_,_,_,h=>by obtain⟨rfl,rfl,rfl⟩:=trodAll_nil h;exact⟨rfl,rfl⟩
 |t::ts,vs,ds,ps,_,_,_,_,h=>by obtain⟨v,vs',d,ds',p,q,rfl,rfl,rfl,h0,hr⟩:=trodAll_cons h;have:=trodAll_length hr;simp[this.1,this.2]
theorem ywG{f:Func}{s:ChangeSpec}{args:Array Value}{ds gs:List (DataW H)}{before:List MemPlace}{B:TypeId}{n:Nat}(hl:laidOutB P=true)(hv:s.vars=[]) (hp:f.params.toList.all (fun t=>P.readableRec t&&decide (t<P.types.size))=true) (hn:f.params.toList.length=n) (hB:P.underlying B=some .bool) (hr:f.resultTypes = #[B]) (hfn:∀ds:List (DataW H),ds.length=n->(s.fn H (ds++[])).results=[.lit (.bool true)]/\(s.fn H (ds++[])).args=ds/\(s.fn H (ds++[])).vars=[]) (hW:DataW.Whole enc P f.params.toList s.vars false W args.toList ds gs before) (hx:Ext W W'):s.post enc P f false true false false W args (.bool true) W':=by
 have hW':=hW;obtain⟨p,q,hA,hV,rfl,_,_⟩:=hW;rw[hv]at hV;obtain⟨rfl,rfl⟩:=trodVars_none hV;have hA:DataW.TrodAll enc P W 0 (fun _=>true) true f.params.toList args.toList ds p:=hA;have hlen:=trodAll_length hA;obtain⟨f1,f2,f3⟩:=hfn ds (hlen.2.trans hn);refine⟨ds,[],p++[],[],p,[],hW',?_,?_,?_,Below.frame hx _,fun h=>by cases h⟩
 ·rw[f1,hr];exact trodAll_mk1 (shut_bool hB _)
 ·rw[f2];exact zwZ hl hx hp hA fun x hxp=>by simpa using hW'.lt x (by simp[hxp])
 ·rw[f3,hv];exact rfl
variable {b0:Nat}{T E:TypeId}{v:Value}
theorem ywQ{fits:TypeId->Bool}:∀{d:Nat} {e:TypeId} {count off n:Nat},rowAt P fits d e count off n=true->off<=count*P.cellsOf e
 |0,_,_,_,_,h=>by simp[rowAt]at h
 |d+1,e,count,off,n,h=>by
  unfold rowAt at h;by_cases hs:P.cellsOf e=0
  ·simp[hs]at h
  ·have hd:=Nat.div_add_mod off (P.cellsOf e);have hm:=Nat.mod_lt off (Nat.pos_of_ne_zero hs);simp only[hs,if_false,cH,aL,zD,beq_iff_eq]at h;rcases h with⟨⟨h1,h2⟩,_⟩|⟨h1,_⟩
   ·have h3:P.cellsOf e*(off/P.cellsOf e)<=P.cellsOf e*count:=gW _ (by omega);rw[dD count];omega
   ·have h3:P.cellsOf e*(off/P.cellsOf e+1)<=P.cellsOf e*count:=gW _ (by omega);rw[Nat.mul_add,Nat.mul_one]at h3;rw[dD count];omega
theorem ycO:∀{d:Nat} {e:TypeId} {count off:Nat} {u:TypeId} {n:Nat},liesAt P d e count off u n=true->off<=count*P.cellsOf e
 |0,_,_,_,_,_,h=>by simp[liesAt]at h
 |d+1,e,count,off,u,n,h=>by
  unfold liesAt at h;rw[cH]at h;rcases h with h|h
  ·exact ywQ h
  ·split at h
   ·exact ycO h
   ·cases h
theorem yuT{a:Addr}{len cap:Nat}(hu:P.underlying T=some (.slice E))(h:Value.okWide P W .any b0 T (.slice (some a) len cap)):
  a.spot=none/\∃cs R fz,W.heap[a.block]? = some (.cells cs R fz)/\a.off<=cs.size:=by
 simp only[Value.okWide,Cell.okWide,Cell.ok,hu]at h;obtain⟨_,_,_,h2,row,cells,h3,h4⟩:=h;refine⟨h2,?_⟩;unfold World.shape? at h3;split at h3
 ·rename_i c elem fz hb;simp only[Option.some.injEq,Prod.mk.injEq]at h3;obtain⟨rfl,rfl⟩:=h3;have h5:=ycO h4;have h6:=Nat.div_mul_le_self c.size (P.cellsOf elem);exact⟨c,_,fz,hb,by omega⟩
 ·cases h3
theorem ok_slice(hu:P.underlying T=some (.slice E))(h:Value.okWide P W .any b0 T v):v = .slice none 0 0∨∃a len cap,v = .slice (some a) len cap:=by
 simp only[Value.okWide,Cell.okWide,Cell.ok,hu]at h;cases v with
 |slice a len cap=>
  cases a with
  |none=>
   left;cases len with
   |zero=>cases cap with
    |zero=>rfl|succ n=>simp at h
   |succ n=>simp at h
  |some a=>exact .inr ⟨a,len,cap,rfl⟩
 |_=>simp at h
theorem yhN{l r:List (DataW H)}:Rows.uptoBulkAll (l++r)=Rows.uptoBulkAll l+Rows.uptoBulkAll r:=by
 induction l with
 |nil=>simp[Rows.uptoBulkAll]|cons x l ih=>simp only[bO,Rows.uptoBulkAll,ih];omega
end
end
end Go.Proofs.YtmbcolbbekbccaaGreat
