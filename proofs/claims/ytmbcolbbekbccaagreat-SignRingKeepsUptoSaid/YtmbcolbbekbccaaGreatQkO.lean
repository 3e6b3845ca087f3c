/- Parts of one proof. Conditions: as each theorem says. -/
import Derived.KernelRfl
import Derived.Conc.MuLone
import Derived.Defers
import Derived.Laws.NewBlocks
import Derived.RegionCalls
import Derived.RegionTactic
import Derived.Test.YtmbcolbbekbccaaGreatQkN
open Array renaming mapM_eq_mapM_toList->gE
open Bool renaming and_eq_true->aK
open List renaming all_cons->cO,any_eq_true->gA,eq_nil_of_length_eq_zero->aU,ext_getElem?->aX,getElem?_append_left->aF,getElem?_append_right->aH,getElem?_eq_getElem->aI,getElem?_eq_some_iff->aC,getElem?_set_ne->aM,getElem?_set_self->aL,length_cons->aN,mem_cons->aT,mem_cons_self->bC,mem_filter->dA,mem_iff_getElem->gT,pairwise_iff_getElem->gF
open Nat renaming beq->aG,ble->bM,blt->cM,eq_of_beq_eq_true->aB,le_of_ble_eq_true->aR,le_refl->aJ,lt_or_gt_of_ne->jE,zero_add->aQ,zero_le->bX
open Option renaming bind->aA
open Go.Proofs.Tryz renaming prog->aD
namespace Go.Proofs.YtmbcolbbekbccaaGreat.Am
open Go Go.RowKit
section
variable {β:Type}{τ:TE}{Γ:CT}{η:HT}{N0 n:Nat}{P:Program}{B:Bas}{S:Mem}{E:List EI}{L:List Res}{σ:St}{m:FM}{w:World}{ops:Array Oper}{Q:Exit->Act->World->Prop}{rest:List Oper}{o:Oper}
def exQ:Ex->Exit
 |.normal=>.normal|.exit i=>.exit i|.ret=>.ret
theorem zpO{α γ:Type}{f:α->γ}{o:Option α}{y:γ}(h:mapO f o=some y):∃x,o=some x/\f x=y:=by
 cases o with
 |none=>cases h
 |some x=>cases h;exact⟨x,rfl,rfl⟩
theorem ytJ{a:Option Nat}{e:Ex}(h:isEx a e=true):exOf a=e:=by
 cases a with
 |none=>cases e<;>first|rfl|cases h
 |some n=>
  cases e with
  |normal=>cases h
  |exit i=>
   have h1:=aB (zaT h);subst h1;have h2:=zaW h;cases hb:aG n 1000000 with
   |true=>rw[hb]at h2;cases h2
   |false=>simp only[exOf,hb,zF]
  |ret=>simp only[exOf,show aG n 1000000=true from h,zE]
theorem Agr.ev{D:List Nat}{m m':FM}(h:Agr D m m'){t:Nat}(ht:hasN D t=false):evO n m' (.tmp t)=evO n m (.tmp t):=by show(bif cM t n then look m' t else undef)=(bif cM t n then look m t else undef);rw[h t ht]
theorem zpH{S':Mem}{E':List EI}{m':FM}{D:List Nat}(R:Rel n B S E L σ m w)(hS:Mem.le S S')(hA:Agr D m m'):∀(kp:List Nat) (t:Nat),VR S' E' (lkS (zqU D σ kp) t) (evO n m' (.tmp t))
 |[],_=>trivial|d::kp,t=>by
  unfold zqU;cases hb:!(hasN D d)&&zuT (lkS σ.sl d) with
  |false=>exact zpH R hS hA kp t|true=>
   simp only[zE,lkS];cases hd:aG d t with
   |false=>exact zpH R hS hA kp t|true=>
    have:=aB hd;subst this;have h1:=zaT hb
    have h2:hasN D d=false:=by cases hh:hasN D d with
     |true=>rw[hh]at h1;cases h1
     |false=>rfl
    rw[hA.ev h2];exact yjW (zaW hb) (R.sl d) hS
theorem yrW:∀(a b:List (Nat×SV)) (t:Nat),lkS (a++b) t=lkS a t∨lkS (a++b) t=lkS b t
 |[],_,_=>.inr rfl|(d,x)::a,b,t=>by
  simp only[List.cons_append,lkS];cases aG d t with
  |true=>exact .inl rfl|false=>exact yrW a b t
theorem RelV.app{V:Nat->Value}(R:RelV B S E L σ V w){l:List (Nat×SV)}(h:∀t,VR S E (lkS l t) (V t)):RelV B S E L (σ.app l) V w:=
 ⟨R.hs,R.lL,R.lE,R.obj,fun t=>by
  show VR S E (lkS (σ.sl++l) t) _;rcases yrW σ.sl l t with e|e
  ·rw[e];exact R.sl t
  ·rw[e];exact h t⟩
theorem yfY:∀(os:List OSh) (l:List SV),Ver0 (zdM os l)
 |[],l=>fun i ver e T xs h=>by cases l<;>(simp[zdM]at h)
 |o::os,l=>by
  obtain⟨a,l',h,ha⟩:=zzU o os l;rw[h];intro i ver e T xs h;cases i with
  |zero=>simp at h;exact ha _ _ _ _ h|succ i=>exact yfY os l' i ver e T xs (by simpa using h)
theorem get_put{s:Shp}{x:zcM s.tys}(h:s.get N0 σ=some x):Ver0 (s.put x).hp/\N0<=(s.put x).hp.length:=by refine⟨yfY _ _,?_⟩;unfold Shp.get at h;obtain⟨h1,_⟩:=zaJ h;show N0<=(zdM s.hp _).length;rw[zsW];exact aR (zaT h1)
theorem ztO{V:Nat->Value}(R:RelV B S E L σ V w){e:Ex}{kp:List (Nat×SV)}(hk:∀S' E',Mem.le S S'->∀t,VR S' E' (lkS kp t) (V t)):∀{outs:List (Option Nat×Shp)} {d:DS outs},inj N0 outs e σ=some d->∃S' E' L' σ',Mem.le S S'/\Pin N0 E E'/\RelV B S' E' L' σ' V w/\Ver0 σ'.hp/\N0<=σ'.hp.length/\∀{γ:Type} (k:Ex->St->Option γ),out kp outs d k=k e σ'
 |[],_,h=>by cases h
 |[a],d,h=>by obtain⟨h1,h2⟩:=zaJ h;obtain⟨S',E',L',hS,hP,R'⟩:=yaI R (fun l=>ziN l R) h2;obtain⟨h3,h4⟩:=get_put h2;refine⟨S',E',L',_,hS,hP,R'.app (hk S' E' hS),h3,h4,fun k=>?_⟩;show k (exOf a.1) _=_;rw[ytJ h1]
 |a::b::l,d,h=>by
  have next:mapO Sum.inr (inj N0 (b::l) e σ)=some d->∃S' E' L' σ',Mem.le S S'/\Pin N0 E E'/\RelV B S' E' L' σ' V w/\Ver0 σ'.hp/\N0<=σ'.hp.length/\∀{γ:Type} (k:Ex->St->Option γ),out kp (a::b::l) d k=k e σ':=fun h=>by obtain⟨x,h1,rfl⟩:=zpO h;exact ztO R hk (outs:=b::l) h1
  simp only[inj]at h;cases hb:isEx a.1 e with
  |true=>
   rw[hb]at h;simp only[zE]at h;split at h
   ·rename_i x h1;cases h;obtain⟨S',E',L',hS,hP,R'⟩:=yaI R (fun l=>ziN l R) h1;obtain⟨h3,h4⟩:=get_put h1;refine⟨S',E',L',_,hS,hP,R'.app (hk S' E' hS),h3,h4,fun k=>?_⟩;show k (exOf a.1) _=_;rw[ytJ hb]
   ·exact next h
  |false=>rw[hb]at h;exact next h
theorem HS.nil(H:HS B S w L)(sz:Nat)(T:TypeId):HS B S w (.osl (.slice none 0 0) 0 sz [] [] T::L):=by
 refine⟨H.fr,H.sub,H.keep,fun i q h=>?_,fun i q b h hb=>?_,fun i j q s b hi hj hq hs=>?_⟩
 ·cases i with
  |zero=>cases h;exact .inl ⟨rfl,rfl,rfl,rfl⟩
  |succ i=>exact H.own _ q h
 ·cases i with
  |zero=>cases h;cases hb
  |succ i=>exact H.old _ q b h hb
 ·cases i with
  |zero=>cases hi;cases hq
  |succ i=>
   cases j with
   |zero=>cases hj;cases hs
   |succ j=>rw[H.inj i j q s b hi hj hq hs]
theorem nl_ok{c:SV}{u:Value}(hc:isNl c=true)(hx:VR S E c u):Same S (.slice none 0 0) u 0/\u.oneCell'=true:=by
 cases c with
 |nils=>have hx:u = .slice none 0 0:=hx;subst hx;exact⟨.inl rfl,rfl⟩|emp=>have hx:VB S E .emp u:=hx;obtain⟨h1,a,rfl⟩:=hx;exact⟨.inr ⟨rfl,rfl,h1,a,rfl⟩,rfl⟩
 |_=>cases hc
theorem xaY(R:Rel n B S E L σ m w){c:SV}{u:Value}(hc:isNl c=true)(hx:VR S E c u)(e:Ty)(T:TypeId):Rel n B S (E++[.osl 0 u (tsz e)]) (L++[.osl (.slice none 0 0) 0 (tsz e) [] [] T]) ⟨σ.sl,σ.hp++[.osl 0 e T []]⟩ m w/\VC S (E++[.osl 0 u (tsz e)]) (.own σ.hp.length 0) u:=by obtain⟨h1,h2⟩:=nl_ok hc hx;refine⟨R.snoc (HS.nil R.hs _ _) ⟨.slice none 0 0,u,[],[],rfl,rfl,rfl,h1⟩,h2,.osl 0 u (tsz e),by rw[<-R.lE];simp,fun r v s he=>?_⟩;cases he;exact⟨aJ 0,fun _=>rfl⟩
theorem mk1_ok(R:Rel n B S E L σ m w)(x:Mk):∃S' E' L',Mem.le S S'/\ELe E E'/\Rel n B S' E' L' (mk1 σ x) m w:=by
 have same:∃S' E' L',Mem.le S S'/\ELe E E'/\Rel n B S' E' L' σ m w:=⟨S,E,L,Mem.le_refl _,ELe.refl _,R⟩;cases x with
 |sl d e T=>
  simp only[mk1];cases hn:isNl (lkS σ.sl d) with
  |false=>exact same|true=>obtain⟨R1,h1⟩:=xaY R hn (R.sl d) e T;exact⟨S,_,_,Mem.le_refl _,ELe.push E _,R1.re (d:=d) (VR.ofC h1)⟩
 |cell d i e T=>
  simp only[mk1];split
  ·split
   ·rename_i id off hp _ T' cs hc;split
    ·rename_i c hi;cases hn:isNl c with
     |false=>exact same|true=>
      obtain⟨r0,e0,h1,h2,b,us,rfl,rfl,h3⟩:=R.objN hc;obtain⟨u,h4,h5⟩:=h3.at hi;obtain⟨R1,h6⟩:=xaY R hn (VR.ofC h5) e T;have hlt:id<σ.hp.length:=by rw[<-R.lE];exact(aC.1 h2).1
      have h2':(E++[EI.osl 0 u (tsz e)])[id]? = some (.blk b):=by rw[aF (by rw[R.lE];exact hlt)];exact h2
      have h1':lkR (L++[Res.osl (.slice none 0 0) 0 (tsz e) [] [] T]) id=some (.blk b us T'):=by rw[zaX,aF (by rw[R.lL];exact hlt),<-zaX];exact h1
      have hst:stR (L++[Res.osl (.slice none 0 0) 0 (tsz e) [] [] T]) id (.blk b us T')=L++[Res.osl (.slice none 0 0) 0 (tsz e) [] [] T]:=by
       rw[zmC];apply aX;intro j;by_cases hj:id=j
       ·subst hj;rw[zaX]at h1';rw[aL (aC.1 h1').1,h1']
       ·rw[aM hj]
      have h7:A2 (VC S (E++[EI.osl 0 u (tsz e)])) (setN cs i (.own σ.hp.length 0)) us:=by
       have h8:A2 (VC S (E++[EI.osl 0 u (tsz e)])) cs us:=h3.imp fun _ _ h=>h.mono (Mem.le_refl S) (ELe.push E _);have h9:=A2.set (a:=SV.own σ.hp.length 0) h6 i h8;have h10:us.set i u=us:=by
        apply aX;intro j;by_cases hj:i=j
        ·subst hj;rw[aL (aC.1 h4).1,h4]
        ·rw[aM hj]
       rw[zeE];rw[h10]at h9;exact h9
      exact⟨S,_,_,Mem.le_refl _,ELe.push E _,R1.upd1 (r':=.blk b us T') h2' (by rw[hst];exact R1.hs) ⟨b,us,rfl,rfl,h7⟩⟩
    ·exact same
   ·exact same
  ·exact same
 |qu d=>
  simp only[mk1];split
  ·rename_i id ver hv;split
   ·rename_i ver' e T x0 xs hc;cases hb:aG ver ver' with
    |false=>exact same|true=>
     have:=aB hb;subst this;obtain⟨r0,e0,h1,h2,v,v',cs,rs,rfl,rfl,h3,hsm⟩:=R.objN hc;obtain rfl:=hsm.eq (i:=0) (by simp);obtain⟨b,c,fz,k1,k2,k3⟩:=zzW R.hs h1 (i:=0) (by simp);subst k1;have hc2:(x0::xs).length<=c:=by
      rcases R.hs.own id _ h1 with⟨h,_⟩|⟨b',c',fz',h,h4,_⟩
      ·cases h
      ·injection h with _ _ h;rw[h];exact h4
     have hst:stR L id (.osl (sl b 0 (x0::xs).length c) (x0::xs).length (tsz e) cs rs T)=L:=by
      rw[zmC];apply aX;intro j;by_cases hj:id=j
      ·subst hj;rw[zaX]at h1;rw[aL (aC.1 h1).1,h1]
      ·rw[aM hj]
     exact⟨S,_,_,Mem.le_refl _,ELe.refl _,R.upd1 (o':=.qu ver e T (x0::xs)) (r':=.osl (sl b 0 (x0::xs).length c) (x0::xs).length (tsz e) cs rs T) h2 (by rw[hst];exact R.hs) ⟨b,c,0,[],cs,rs,0,c,by rw[aQ];rfl,rfl,by simp,h3,hc2,.inl ⟨by rw[Nat.zero_mul],by rw[aQ]⟩⟩⟩
   ·exact same
  ·exact same
 |fz d=>
  simp only[mk1];split
  ·rename_i id v h;exact yuX R id
  ·exact same
theorem ztA:∀(l:List Mk) {σ:St} {S:Mem} {E:List EI} {L:List Res} (_:Rel n B S E L σ m w),∃S' E' L',Mem.le S S'/\ELe E E'/\Rel n B S' E' L' (zqR σ l) m w
 |[],_,S,E,L,R=>⟨S,E,L,Mem.le_refl _,ELe.refl _,R⟩|x::l,_,_,_,_,R=>by obtain⟨S1,E1,L1,h1,h2,R1⟩:=mk1_ok R x;obtain⟨S2,E2,L2,h3,h4,R2⟩:=ztA l R1;exact⟨S2,E2,L2,Mem.le_trans h1 h3,h2.trans h4,R2⟩
theorem ytO{K V:Ty}(hK:kOk K=true){es:List (den K×den V)}{ents:List MapEntry}(hM:MR S K V es ents){a c:MapEntry}(ha:a∈ents)(hc:c∈ents):a.key=c.key↔a.born=c.born:=by
 obtain⟨l,hl,hA⟩:=hM.perm;have hne:l.Pairwise fun p q=>keq K p.1 q.1=false:=(hl.pairwise_iff fun h=>zuF hK h).2 hM.ne;obtain⟨i,hi,rfl⟩:=gT.1 ha;obtain⟨j,hj,rfl⟩:=gT.1 hc;have hlen:=hA.len;constructor
 ·intro h;by_cases hij:i=j
  ·subst hij;rfl
  ·exfalso;obtain⟨p,hp,hp2⟩:=A2.at_r hA (aI hi);obtain⟨q,hq,hq2⟩:=A2.at_r hA (aI hj);have h2:p.1=q.1:=zzK hK (by rw[<-zsY hK hp2.1,<-zsY hK hq2.1,h]);have h3:∀{i j:Nat} {p q:den K×den V},i<j->l[i]? = some p->l[j]? = some q->p.1=q.1->False:=fun {i j p q} hij hp hq h2=>by obtain⟨h4,rfl⟩:=aC.1 hp;obtain⟨h5,rfl⟩:=aC.1 hq;have:=gF.1 hne i j h4 h5 hij;rw[h2]at this;rw[(zhO hK).2 rfl]at this;cases this
   rcases jE hij with h4|h4
   ·exact h3 h4 hp hq h2
   ·exact h3 h4 hq hp h2.symm
 ·intro h;by_cases hij:i=j
  ·subst hij;rfl
  ·exfalso;have h4:∀{i j:Nat} (hi:i<ents.length) (hj:j<ents.length),i<j->ents[i].born=ents[j].born->False:=fun {i j} hi hj hij h=>by have:=gF.1 hM.nd i j (by simpa using hi) (by simpa using hj) hij;simp only[List.getElem_map]at this;exact this h
   rcases jE hij with h5|h5
   ·exact h4 hi hj h5 h
   ·exact h4 hj hi h5 h.symm
theorem ynP{S R:Type}{f:S->List (Option (S⊕R))}{s:S}{r:R}(h:rngA f s=some r):∃n,Rng f n s r:=by
 unfold rngA at h;split at h
 ·rename_i hh;cases h;exact hh.choose_spec
 ·cases h
theorem yyF{α γ:Type}{l:List α}{d:γ}{f:α->γ}{p:α}(h:p∈l):f p∈rngL l d f:=by
 cases l with
 |nil=>cases h
 |cons x l=>exact List.mem_map.2 ⟨p,h,rfl⟩
theorem xeJ{γ:Type}{d t:Nat}{g0:St->Option γ}{Z:Option γ->Prop}(R:Rel n B S E L σ m w)(hZ:¬Z none)(hz:∀o∈ywK n σ d t g0,Z o){ty:TypeId}{pos:String}{aft:Array Edge}:
  outcome P (fun v w'=>∃σ' L',Z (g0 σ')/\Rel n B S E L' σ' ((d,v)::m) w') ((execOp (evO n m) ⟨some d,.next (.tmp t) false,ty,pos,aft,none⟩).run P w):=by
 have bad:∀{X:Prop},(∀o,o∈[(none:Option γ)]->Z o)->X:=fun h=>absurd (h none bC) hZ;unfold ywK at hz;split at hz
 ·rename_i i ht;split at hz
  ·rename_i mid gn K cur left hi;split at hz
   ·rename_i g' K' V es hm;split at hz
    ·rename_i hK _;subst hK;cases hb:aG gn g'&&cM d n with
     |false=>rw[hb]at hz;exact bad hz|true=>
      rw[hb]at hz;simp only[zE,ziC]at hz;have hd:cM d n=true:=zaW hb;have hg:=aB (zaT hb);subst hg;obtain⟨r0,e0,k1,k2,b,mb,ck,seen,rfl,rfl,hK,e1,k3,k4⟩:=R.objN hi;obtain⟨r1,e2,k5,k6,b2,ents,ck2,rfl,rfl,hM,hlt⟩:=R.objN hm;rw[k6]at k3;cases k3;obtain⟨_,k7⟩:=k4 _ _ _ _ rfl;obtain⟨rfl,rfl,k8⟩:=k7 rfl;obtain⟨l,hl,hA⟩:=hM.perm;have hv:=R.sl t;rw[ht]at hv;obtain⟨b3,hv,e3,q1,q2⟩:=hv;rw[k2]at q1;cases q1;have:=q2 _ rfl;subst this;have hh:w.heap[b]? = some (.mapIter (some b2) ck2 seen ck2):=R.hs.own i _ k1;have hh2:w.heap[b2]? = some (.map ents.toArray ck2):=R.hs.own mid _ k5;have exec:∀{u w'},(Instr.next (.pointer (some ⟨b,0,none⟩)) false ty).run P w = .ok u w'->(execOp (evO n m) ⟨some d,.next (.tmp t) false,ty,pos,aft,none⟩).run P w = .ok (.value u) w':=fun {u w'} h=>by have hv:evO n m (.tmp t) = .pointer (some ⟨b,0,none⟩):=hv;simp[execOp,hv,h,Result.andThen]
      rcases run_next_at (P:=P) w ty b b2 ck2 ck2 seen ents.toArray ck2 hh hh2 (by simpa using hlt) (aJ _)with⟨h0,hrun⟩|⟨en,hen,w1,hw1,hrun⟩
      ·rw[exec hrun];have hnil:rngC (keq K) es left=[]:=by
        rw[rngC,List.filter_eq_nil_iff];intro p hp hany;obtain⟨k,hk,hke⟩:=gA.1 hany;obtain⟨en,hen,h1⟩:=A2.mem_l hA p (hl.mem_iff.2 hp);have h2:en.born∉seen:=fun h=>((k8 en hen).1.1 h) k hk (by rw[zsY hK h1.1,(zhO hK).1 hke]);have:en∈(leftOf ents.toArray seen):=by simp[leftOf,hen,h2]
        have h3:=Array.size_pos_of_mem this;omega
       rw[hnil]at hz;exact⟨_,_,hz _ bC,R.put (x:=.tup [.v .b false]) ⟨[.bool false],rfl,.cons (show rep .b S [.bool false] false from rfl) .nil⟩ hd⟩
      ·rw[exec hrun];have hen':en∈ents/\en.born∉seen:=by simpa[leftOf]using hen
       obtain⟨p,hp,hpe⟩:=A2.mem_r hA en hen'.1;have hkey:=zsY hK hpe.1;have hex:∃k∈left,en.key=kv K k:=by refine Classical.byContradiction fun hno=>hen'.2 ((k8 en hen'.1).1.2 fun k hk h=>hno ⟨k,hk,h⟩)
       obtain⟨k,hk,hkk⟩:=hex;have hpk:p.1=k:=zzK hK (hkey.symm.trans hkk);have hpm:p∈rngC (keq K) es left:=by rw[rngC,dA];exact⟨hl.mem_iff.1 hp,gA.2 ⟨k,hk,(zhO hK).2 hpk⟩⟩
       have h1:=hz _ (yyF (d:=g0 (σ.put d (.tup [.v .b false]))) (f:=fun p=>g0 ⟨(d,.tup [.v .b true,svOf K p.1,svOf V p.2])::σ.sl,setN σ.hp i (.it mid gn K (some p.1) (rngD (keq K) left p.1))⟩) hpm);have H1:HS B S w1 L:=by
        rcases hw1 with rfl|rfl
        ·exact R.hs
        ·exact R.hs.drew
       have hh1:w1.heap=w.heap:=by rcases hw1 with rfl|rfl<;>rfl
       have hlt1:b<w1.heap.size:=by rw[hh1];exact lt_of_heap hh
       have H2:HS B S (Go.ChangeMaps.setBlock w1 b (.mapIter (some b2) ck2 (seen.push en.born) ck2)) (stR L i (.obj b (.mapIter (some b2) ck2 (seen.push en.born) ck2))):=by
        refine H1.upd k1 (by simp[Go.ChangeMaps.setBlock]) rfl rfl rfl (fun j hj hne=>?_) ?_ fun b' hb'=>.inl hb'
        ·have:j≠b:=fun e=>hne (by rw[e];rfl);simp[Go.ChangeMaps.setBlock,Ne.symm this]
        ·show((Go.ChangeMaps.setBlock w1 b _).heap)[b]? = _;simp[Go.ChangeMaps.setBlock,hlt1]
       have hA1:=hA
       have R1:=R.upd1 (o':=.it mid gn K (some p.1) (rngD (keq K) left p.1)) k2 H2 ⟨b,b2,ck2,seen.push en.born,rfl,rfl,hK,_,k6,fun g2 b4 c2 es2 he=>by
        cases he;refine⟨aJ _,fun _=>⟨rfl,rfl,fun e4 he4=>⟨?_,fun c hc=>?_⟩⟩⟩
        ·have hkb:e4.key=en.key↔e4.born=en.born:=ytO hK hM he4 hen'.1;rw[Array.mem_push,(k8 e4 he4).1];constructor
         ·rintro(h|h) k' hk'
          ·exact h k' (dA.1 hk').1
          ·rw[hkb.2 h,hkey];intro h5;have:=(dA.1 hk').2;rw[(zhO hK).2 (zzK hK h5).symm]at this;cases this
         ·intro h;by_cases h5:e4.born=en.born
          ·exact .inr h5
          ·refine .inl fun k' hk' h6=>h k' (dA.2 ⟨hk',?_⟩) h6;rw[Bool.not_eq_true',zkY hK];intro h7;exact h5 (hkb.1 (by rw[h6,h7,hkey]))
        ·cases hc;rw[<-hkey,Array.back?_push]
         exact(ytO hK hM he4 hen'.1).trans ⟨fun h=>by rw[h],fun h=>(osi h).symm⟩⟩
       refine⟨_,_,h1,R1.put (x:=.tup [.v .b true,svOf K p.1,svOf V p.2]) ⟨[.bool true,en.key,en.val],rfl,.cons (show rep .b S [.bool true] true from rfl) (.cons (zmP hpe.1) (.cons (zmP hpe.2) .nil))⟩ hd⟩
    ·exact bad hz
   ·exact bad hz
  ·exact bad hz
 ·exact bad hz
def Good(P:Program)(N0 n:Nat)(B:Bas)(c:Code){β:Type}(rn:(Ex->St->Option β)->Option β)(S:Mem)(E:List EI)(m:FM)(w:World):Prop:=
 ∀(k:Ex->St->Option β) (r:β) (Q:Exit->Act->World->Prop),rn k=some r->(∀e σ' S' E' L' m' w',k e σ'=some r->Mem.le S S'->Pin N0 E E'->Agr (ziJ c) m m'->Rel n B S' E' L' σ' m' w'->Q (exQ e) (fr n m') w')->c.wp P Q (fr n m) w
theorem zlU{α γ:Type}{o:Option α}{f:α->Option γ}{r:γ}(h:aA o f=some r):∃x,o=some x/\f x=some r:=bnd h
theorem zoJ(hm:P.follows .mixedOrders=true)(hτ:TEok P τ)(hΓ:CTok P Γ B):∀(c:Code) {β:Type} {σ:St} {S:Mem} {E:List EI} {L:List Res} {m:FM} {w:World},Rel n B S E L σ m w->Good P N0 n B c (β:=β) (run N0 n τ Γ η c σ) S E m w
 |.skip,_,σ,S,E,L,m,w,R,k,r,Q,h,hQ=>wp_skip (hQ .normal _ _ _ _ _ _ h (Mem.le_refl _) (Pin.refl _ _) (Agr.refl _ _) R)|.exit id,_,σ,S,E,L,m,w,R,k,r,Q,h,hQ=>wp_exit (hQ (.exit id) _ _ _ _ _ _ h (Mem.le_refl _) (Pin.refl _ _) (Agr.refl _ _) R)|.ret,_,σ,S,E,L,m,w,R,k,r,Q,h,hQ=>wp_ret (hQ .ret _ _ _ _ _ _ h (Mem.le_refl _) (Pin.refl _ _) (Agr.refl _ _) R)|.region id ops d,_,σ,S,E,L,m,w,R,k,r,Q,h,hQ=>by
  obtain⟨ops⟩:=ops;cases d with
  |true=>exact ynR hm hτ hΓ R h (fun σ' S' E' L' m' w' h1 h2 h3 h4 R1=>hQ .normal _ _ _ _ _ _ h1 h2 (Pin.of h3) h4 R1)|false=>exact wp_region_lit (zvS hτ hΓ (fun σ' S' E' L' m' w' h1 h2 h3 h4 R1=>hQ .normal _ _ _ _ _ _ h1 h2 (Pin.of h3) h4 R1) ops (fun _ h=>h) (Mem.le_refl _) (ELe.refl _) (Agr.refl _ _) R h)
 |.cond c a b,_,σ,S,E,L,m,w,R,k,r,Q,h,hQ=>by
  simp only[run]at h;split at h
  ·rename_i t hc;have hv:evO n m c = .bool t:=vB (zbM R hc);refine zcF hv (fun ht=>?_) (fun ht=>?_)
   ·subst ht;exact zoJ hm hτ hΓ a R k r Q h (fun e σ' S' E' L' m' w' h1 h2 hP h3 R1=>hQ e σ' S' E' L' m' w' h1 h2 hP h3.l R1)
   ·subst ht;exact zoJ hm hτ hΓ b R k r Q h (fun e σ' S' E' L' m' w' h1 h2 hP h3 R1=>hQ e σ' S' E' L' m' w' h1 h2 hP h3.r R1)
  ·cases h
 |.seq a b,_,σ,S,E,L,m,w,R,k,r,Q,h,hQ=>by
  have next:∀e σ' S' E' L' m' w',nx k (fun σ=>run N0 n τ Γ η b σ k) e σ'=some r->Mem.le S S'->Pin N0 E E'->Agr (ziJ a) m m'->Rel n B S' E' L' σ' m' w'->Exit.then (b.wp P Q) Q (exQ e) (fr n m') w':=fun e σ' S' E' L' m' w' h1 hS hP hA R1=>by
   cases e with
   |normal=>exact zoJ hm hτ hΓ b R1 k r Q h1 (fun e σ' S' E' L' m' w' h1 h2 hP2 h3 R1=>hQ e σ' S' E' L' m' w' h1 (Mem.le_trans hS h2) (hP.trans hP2) ((Agr.l hA).trans (Agr.r h3)) R1)|exit i=>exact hQ (.exit i) _ _ _ _ _ _ h1 hS hP hA.l R1|ret=>exact hQ .ret _ _ _ _ _ _ h1 hS hP hA.l R1
  simp only[run]at h;refine wp_seq ?_;split at h
  ·rename_i mk kp outs hj;obtain⟨d,h1,h2⟩:=zlU h;obtain⟨S0,E0,L0,hS0,hE0,R0⟩:=ztA mk R;refine zoJ hm hτ hΓ a R0 (inj N0 outs) d _ h1 fun e σ' S' E' L' m' w' h3 hS hP hA R1=>?_;obtain⟨S2,E2,L2,σ2,hS2,hP2,R2,_,_,h4⟩:=ztO R1 (kp:=zqU (ziJ a) (zqR σ mk) kp) (fun S'' E'' hS'' t=>zpH R0 (Mem.le_trans hS hS'') hA kp t) h3;rw[h4]at h2;exact next e σ2 _ _ _ _ _ h2 (Mem.le_trans hS0 (Mem.le_trans hS hS2)) ((Pin.of hE0).trans (hP.trans hP2)) hA R2
  ·exact zoJ hm hτ hΓ a R _ r _ h next
 |.block id b,_,σ,S,E,L,m,w,R,k,r,Q,h,hQ=>by
  have next:∀e σ' S' E' L' m' w',blk id k e σ'=some r->Mem.le S S'->Pin N0 E E'->Agr (ziJ b) m m'->Rel n B S' E' L' σ' m' w'->Exit.inBlock id Q (exQ e) (fr n m') w':=fun e σ' S' E' L' m' w' h1 hS hP hA R1=>by
   cases e with
   |normal=>exact hQ .normal _ _ _ _ _ _ h1 hS hP hA R1|ret=>exact hQ .ret _ _ _ _ _ _ h1 hS hP hA R1|exit i=>
    simp only[blk]at h1;cases hb:aG i id with
    |true=>rw[hb]at h1;have:=aB hb;subst this;exact zgE (hQ .normal _ _ _ _ _ _ h1 hS hP hA R1)|false=>rw[hb]at h1;exact ypJ hb (hQ (.exit i) _ _ _ _ _ _ h1 hS hP hA R1)
  simp only[run]at h;refine wp_block ?_;split at h
  ·rename_i mk kp outs hj;obtain⟨d,h1,h2⟩:=zlU h;obtain⟨S0,E0,L0,hS0,hE0,R0⟩:=ztA mk R;refine zoJ hm hτ hΓ b R0 _ d _ h1 fun e σ' S' E' L' m' w' h3 hS hP hA R1=>?_;have fin:∀e',inj N0 outs e' σ'=some d->Q (exQ e') (fr n m') w':=fun e' h3=>by obtain⟨S2,E2,L2,σ2,hS2,hP2,R2,_,_,h4⟩:=ztO R1 (kp:=zqU (ziJ b) (zqR σ mk) kp) (fun S'' E'' hS'' t=>zpH R0 (Mem.le_trans hS hS'') hA kp t) h3;rw[h4]at h2;exact hQ e' σ2 _ _ _ _ _ h2 (Mem.le_trans hS0 (Mem.le_trans hS hS2)) ((Pin.of hE0).trans (hP.trans hP2)) hA R2
   cases e with
   |normal=>exact fin .normal h3|ret=>exact fin .ret h3|exit i=>
    simp only[blk]at h3;cases hb:aG i id with
    |true=>rw[hb]at h3;have:=aB hb;subst this;exact zgE (fin .normal h3)|false=>rw[hb]at h3;exact ypJ hb (fin (.exit i) h3)
  ·exact zoJ hm hτ hΓ b R _ r _ h next
 |.loop b,_,σ,S,E,L,m,w,R,k,r,Q,h,hQ=>by
  simp only[run]at h;split at h
  ·rename_i mk s kp outs hj;split at h
   ·rename_i s0 hs0;obtain⟨d,h1,h2⟩:=zlU h;obtain⟨S0,E0,L0,hS0,hE0,R0⟩:=ztA mk R;obtain⟨S1,E1,L1,hS1,hP1,R1⟩:=yaI R0 (fun l=>ziN l R0) hs0;have hQ:∀e σ' S' E' L' m' w',k e σ'=some r->Mem.le S0 S'->Pin N0 E0 E'->Agr (ziJ b) m m'->Rel n B S' E' L' σ' m' w'->Q (exQ e) (fr n m') w':=fun e σ' S' E' L' m' w' h1 h2 h3 h4 h5=>hQ e σ' S' E' L' m' w' h1 (Mem.le_trans hS0 h2) ((Pin.of hE0).trans h3) h4 h5;clear hS0 hE0 R;generalize zqR σ mk=σ at *;refine xfK (fun g a w=>∃m' x S' E' L',a=fr n m'/\Mem.le S0 S'/\Pin N0 E0 E'/\Agr (ziJ b) m m'/\Rel n B S' E' L' (s.put x) m' w/\zpU (fun x=>run N0 n τ Γ η b ((s.put x).app (zqU (ziJ b) σ kp)) (nx (fun e σ=>mapO Sum.inr (inj N0 outs e σ)) fun σ=>mapO Sum.inl (s.get N0 σ))) g x=some d) FU ⟨m,s0,S1,E1,L1,rfl,hS1,hP1,Agr.refl _ _,R1,h1⟩ ?_;rintro g a w ⟨m2,x,S2,E2,L2,rfl,hS2,hP2,hA2,R2,hit⟩;cases g with
    |zero=>cases hit
    |succ g=>
     obtain⟨o,h3,h4⟩:=zyF hit;refine zoJ hm hτ hΓ b (R2.app (zpH R0 hS2 hA2 kp)) _ o _ h3 fun e σ' S' E' L' m' w' h5 hS3 hP3 hA3 R3=>?_;have hSS:=Mem.le_trans hS2 hS3;have hAA:=hA2.trans hA3
     have fin:∀e',mapO Sum.inr (inj N0 outs e' σ')=some o->Q (exQ e') (fr n m') w':=fun e' h5=>by
      obtain⟨d',h6,rfl⟩:=zpO h5;have h7:d'=d:=by cases h4;rfl
      subst h7;obtain⟨S4,E4,L4,σ4,hS4,hP4,R4,_,_,h8⟩:=ztO R3 (kp:=zqU (ziJ b) σ kp) (fun S'' E'' hS'' t=>zpH R0 (Mem.le_trans hSS hS'') hAA kp t) h6;rw[h8]at h2;exact hQ e' σ4 _ _ _ _ _ h2 (Mem.le_trans hSS hS4) ((hP2.trans hP3).trans hP4) hAA R4
     cases e with
     |normal=>obtain⟨x',h6,rfl⟩:=zpO h5;obtain⟨S4,E4,L4,hS4,hP4,R4⟩:=yaI R3 (fun l=>ziN l R3) h6;exact⟨g,Nat.lt_succ_self g,m',x',S4,E4,L4,rfl,Mem.le_trans hSS hS4,(hP2.trans hP3).trans hP4,hAA,R4,h4⟩
     |exit i=>exact fin (.exit i) h5|ret=>exact fin .ret h5
   ·cases h
  ·rename_i mk s kp outs hj;split at h
   ·rename_i id ops c;split at h
    ·rename_i d t ty pos aft l hops;split at h
     ·rename_i s0 hs0;obtain⟨dd,h1,h2⟩:=zlU h;obtain⟨fuel,hrng⟩:=ynP h1;obtain⟨S0,E0,L0,hS0,hE0,R0⟩:=ztA mk R;obtain⟨S1,E1,L1,hS1,hP1,R1⟩:=yaI R0 (fun l=>ziN l R0) hs0;have hQ:∀e σ' S' E' L' m' w',k e σ'=some r->Mem.le S0 S'->Pin N0 E0 E'->Agr (ziJ (.seq (.region id ops false) c)) m m'->Rel n B S' E' L' σ' m' w'->Q (exQ e) (fr n m') w':=fun e σ' S' E' L' m' w' h1 h2 h3 h4 h5=>hQ e σ' S' E' L' m' w' h1 (Mem.le_trans hS0 h2) ((Pin.of hE0).trans h3) h4 h5;clear hS0 hE0 R;generalize zqR σ mk=σ at *;refine xfK (fun g a w=>∃m' x S' E' L',a=fr n m'/\Mem.le S0 S'/\Pin N0 E0 E'/\Agr (ziJ (.seq (.region id ops false) c)) m m'/\Rel n B S' E' L' (s.put x) m' w/\Rng (fun x=>ywK n ((s.put x).app (zqU (ziJ (.seq (.region id ops false) c)) σ kp)) d t fun σ=>steps n τ Γ ops.toList l σ fun σ=>run N0 n τ Γ η c σ (nx (fun e σ=>mapO Sum.inr (inj N0 outs e σ)) fun σ=>mapO Sum.inl (s.get N0 σ))) g x dd) fuel ⟨m,s0,S1,E1,L1,rfl,hS1,hP1,Agr.refl _ _,R1,hrng⟩ ?_;rintro g a w ⟨m2,x,S2,E2,L2,rfl,hS2,hP2,hA2,R2,hit⟩;cases g with
      |zero=>exact hit.elim|succ g=>
       have hD:∀t',hasN (zoD (⟨some d,.next (.tmp t) false,ty,pos,aft,none⟩::l)) t'=true->hasN (ziJ (.seq (.region id ops false) c)) t'=true:=fun t' ht'=>by show hasN (zoD ops.toList++ziJ c) t'=true;rw[ybG,hops,ht'];rfl
       obtain⟨ops⟩:=ops;have hops:ops=_:=hops;subst hops;refine wp_seq (wp_region_lit (wl_do (znZ rfl) (xeJ (R2.app (zpH R0 hS2 hA2 kp)) (Z:=rngO (fun s'=>Rng _ g s' dd) dd) (fun h=>h) hit) ?_));rintro v w' ⟨σ1,L3,hy,R3⟩;generalize hyo:(steps n τ Γ _ l σ1 fun σ=>run N0 n τ Γ η c σ (nx (fun e σ=>mapO Sum.inr (inj N0 outs e σ)) fun σ=>mapO Sum.inl (s.get N0 σ)))=o at hy
       match o,hy with
       |some y,hy2=>
        rw[zaI];refine zvS hτ hΓ (D:=ziJ (.seq (.region id _ false) c)) (S0:=S2) (E0:=E2) (m0:=m2) (fun σ' S' E' L' m' w' h5 hS3 hE3 hA3 R4=>?_) l (fun t' ht'=>hD t' (zzN ht')) (Mem.le_refl _) (ELe.refl _) (Agr.put (hD d (zzY rfl))) R3 hyo;refine zoJ hm hτ hΓ c R4 _ y _ h5 fun e σ' S' E' L' m' w' h5 hS4 hP4 hA4 R4=>?_;have hSS:=Mem.le_trans hS2 (Mem.le_trans hS3 hS4);have hAA:=hA2.trans (hA3.trans hA4.r);have hPP:=(hP2.trans (Pin.of hE3)).trans hP4;have fin:∀e',mapO Sum.inr (inj N0 outs e' σ')=some y->Q (exQ e') (fr n m') w':=fun e' h5=>by obtain⟨d',h6,rfl⟩:=zpO h5;have h7:d'=dd:=hy2;subst h7;obtain⟨S4,E4,L4,σ4,hS4,hP4,R4,_,_,h8⟩:=ztO R4 (kp:=zqU (ziJ (.seq (.region id _ false) c)) σ kp) (fun S'' E'' hS'' t=>zpH R0 (Mem.le_trans hSS hS'') hAA kp t) h6;rw[h8]at h2;exact hQ e' σ4 _ _ _ _ _ h2 (Mem.le_trans hSS hS4) (hPP.trans hP4) hAA R4
        cases e with
        |normal=>obtain⟨x',h6,rfl⟩:=zpO h5;obtain⟨S4,E4,L4,hS4,hP4,R4⟩:=yaI R4 (fun l=>ziN l R4) h6;exact⟨g,Nat.lt_succ_self g,m',x',S4,E4,L4,rfl,Mem.le_trans hSS hS4,hPP.trans hP4,hAA,R4,hy2⟩
        |exit i=>exact fin (.exit i) h5|ret=>exact fin .ret h5
     ·cases h
    ·cases h
   ·cases h
  ·cases h
theorem yhJ{s:Sem Value}{u:Value}(h:(do pure (Next.value (<-s)):Sem Next).run P w = .ok (.value u) w):s.run P w = .ok u w:=by
 rw[Sem.run_bind]at h;cases hs:s.run P w with
 |ok v w'=>rw[hs]at h;simp only[Result.andThen_ok,Sem.run_pure]at h;injection h with h1 h2;injection h1 with h1;rw[h1,h2]
 |halt x w'=>rw[hs]at h;cases h
theorem resV_ok(hτ:TEok P τ)(R:Rel n B S E L σ m w){v:ResultVar}{x:SV}(h:resV τ σ v=some x):∃u,VR S E x u/\(resS (fr n m).tmps v).run P w = .ok u w:=by
 cases v with
 |tmp t=>cases h;exact⟨_,R.sl t,zcB rfl⟩
 |cell t T=>
  simp only[resV]at h;split at h
  ·rename_i f hT
   have h':deref σ.hp (lkS σ.sl t) f.sz (fun l=>bindS (svAt f l) some)=some x:=by
    have e1:(fun l=>bindS (svAt f l) some)=fun l=>svAt f l:=by funext l;cases svAt f l<;>rfl
    rw[e1];exact h
   obtain ⟨z, u, h1, h2, h3⟩ := ypU (dst := none) (g := none) (ty := 0) (pos := "") (aft := #[]) (a := .tmp t) (k := some) R (hτ _ _ hT) (R.sl t) h';cases h1;refine⟨u,h2,?_⟩;have h4:=yhJ (h3 w R.hs);show(do loadVar T (<-asAddr ((fr n m).tmps.getD t undef)):Sem Value).run P w=_;rw[ycS];have h5:(do loadVar T (<-Instr.sureAddr (evO n m (.tmp t))):Sem Value).run P w = .ok u w:=h4;cases hp:evO n m (.tmp t) with
   |pointer a=>
    rw[hp]at h5;cases a with
    |none=>simp[Instr.sureAddr]at h5|some a=>simpa[Instr.sureAddr,asAddr]using h5
   |_=>rw[hp]at h5;simp[Instr.sureAddr]at h5
  ·cases h
theorem ybO(hτ:TEok P τ)(R:Rel n B S E L σ m w):∀{l:List ResultVar} {xs:List SV},zyP τ σ l=some xs->∃us,A2 (VR S E) xs us/\(l.mapM (resS (fr n m).tmps)).run P w = .ok us w
 |[],xs,h=>by cases h;exact⟨[],.nil,by simp⟩
 |v::l,xs,h=>by
  unfold zyP at h;split at h
  ·rename_i x y h1 h2;cases h;obtain⟨u,h3,h4⟩:=resV_ok hτ R h1;obtain⟨us,h5,h6⟩:=ybO hτ R h2;exact⟨u::us,.cons h3 h5,by simp only[List.mapM_cons,Sem.run_bind,h4,Result.andThen_ok,h6,Sem.run_pure]⟩
  ·cases h
theorem ylQ:∀{l:List Ty} {us:LV} {x:zcM l},repA S l us x->us.length=l.length
 |[],us,_,h=>by have:us=[]:=h;subst this;rfl
 |[_],_,_,⟨_,e,_⟩=>by rw[e];rfl
 |_::t'::l,_,_,⟨_,_,e,_,h⟩=>by rw[e];simp[ylQ h]
theorem xdY{l:List Ty}{us:LV}{x:zcM l}(h:repA S l us x):repR S l (if h:us.toArray.size=1 then us.toArray[0]else .tuple us.toArray) x:=by
 match l,x,h with
 |[],x,h=>have:us=[]:=h;subst this;exact⟨[],rfl,rfl⟩|[t],x,⟨u,e,h1⟩=>subst e;exact h1|t::t'::l,x,h=>have hl:=ylQ h;rw[dif_neg (by simp at hl ⊢;omega)];exact⟨us,rfl,h⟩
theorem xcQ:∀{xs:List SV} {us:LV} (i t:Nat),A2 (VR S E) xs us->VR S E (lkS (argS i xs) t) (look (argm us i) t)
 |_,_,i,t,.nil=>trivial|_,_,i,t,.cons a r=>by
  unfold argS lkS argm look;cases aG i t with
  |true=>exact a|false=>exact xcQ (i+1) t r
theorem ydW:∀(us:LV) (i t:Nat),look (argm us i) t=if i<=t then us.getD (t-i) undef else undef
 |[],i,t=>by simp[argm,look]
 |u::us,i,t=>by
  unfold argm look;rw[ydW us (i+1) t];cases hb:aG i t with
  |true=>have:=aB hb;subst this;simp|false=>
   have hne:i≠t:=fun e=>by subst e;rw[Nat.beq_refl]at hb;cases hb
   simp only[zF];by_cases h:i<=t
   ·rw[zH h,zH (by omega),show t-i=(t-(i+1))+1 by omega,List.getD_cons_succ]
   ·rw[zG h,zG (by omega)]
theorem ydA:∀(ash:List Sh) (l:List SV),(putL ash l).1.length=ash.length
 |[],_=>rfl|a::ash,l=>by simp only[putL,aN,ydA ash]
theorem yeV:∀{xs:List SV} {i t:Nat},i+xs.length<=t->lkS (argS i xs) t = .undef
 |[],_,_,_=>rfl|x::xs,i,t,h=>by
  simp only[aN]at h;unfold argS lkS;have:aG i t=false:=by rw[zlA];simp;omega
  rw[this];exact yeV (by omega)
theorem yjY{G:List (Nat×Obj)}{S0:Mem}{w0:World}(hG:GS G S0)(hS:Sub S0 w0):GB G ⟨S0,[],w0⟩:=fun p hp=>⟨hS.lt (hG p hp),hG p hp⟩
theorem gb_in{G:List (Nat×Obj)}{B:Bas}{S0:Mem}{w0:World}{X:List Nat}{L0:List Res}(hG:GS G S0)(H:HS B S0 w0 L0):GB G ⟨S0,X,w0⟩:=fun p hp=>⟨H.sub.lt (hG p hp),hG p hp⟩
theorem yrJ{f:FuncId}{fn:Func}{ats:List Sh}{rts:List Ty}{S0:Mem}{w0:World}{us:LV}{a:zcM (ats.flatMap Sh.tys)}{y:zcM rts}(hm:P.follows .mixedOrders=true)(hτ:TEok P τ)(hΓ:CTok P Γ ⟨S0,[],w0⟩)(hf:P.funcs[f]? = some fn)(hl:bM ats.length fn.ntmps=true)(hS:Sub S0 w0)(ha:A2 (VR S0 []) (putL ats (zhN _ a)).1 us)(hy:fnP τ Γ η fn ats rts a=some y):Calls P f us.toArray w0 fun e w'=>Ext w0 w'/\∃v,e = .returned v/\repR (gr S0 w0 w') rts v y:=by
 have hul:us.length=ats.length:=by rw[<-ha.len,ydA]
 unfold fnP at hy;split at hy
 ·cases hy
 ·rename_i c hb;obtain⟨hj,hy⟩:=zaJ hy;refine enter hf hb rfl (by rw[hul];exact hl) ?_;have R0:Rel fn.ntmps ⟨S0,[],w0⟩ S0 [] [] ⟨argS 0 (putL ats (zhN _ a)).1,[]⟩ (argm us 0) w0:=by
   refine⟨HS.start hS,rfl,rfl,fun i o h=>by simp at h,fun t=>?_⟩;show VR S0 [] (lkS (argS 0 (putL ats (zhN _ a)).1) t) (bif cM t fn.ntmps then look (argm us 0) t else undef);cases ht:cM t fn.ntmps with
   |true=>exact xcQ 0 t ha|false=>rw[zhR]at ht;have h1:=of_decide_eq_false ht;have h2:=aR hl;rw[yeV (by rw[ydA];omega)];trivial
  refine zoJ hm hτ hΓ c R0 (fin τ fn rts) y _ hy fun e σ' S' E' L' m' w' h1 _ _ _ R1=>?_
  have key:∀(_:(match zyP τ σ' fn.results.toList with
    |some l=>match zyP τ (frzL σ' (l.flatMap owns)) fn.results.toList with
     |some l=>ybT [] rts l|none=>none
    |none=>none)=some y),(fr fn.ntmps m').defers=[]/\∃v,(results fn (fr fn.ntmps m').tmps).run P w' = .ok v w'/\∃v',Ending.returned v = .returned v'/\Ext w0 w'/\repR (gr S0 w0 w') rts v' y:=fun h1=>by
   split at h1
   ·rename_i l hl1;split at h1
    ·rename_i l2 hl2;obtain⟨S2,E2,L2,_,_,R2⟩:=ziN (l.flatMap owns) R1;obtain⟨vs,h3,h4⟩:=ybO (P:=P) hτ R2 hl2;have h5:=zwR R2.hs.gr rts (ykF rts hj (ylZ (Mem.le_refl _) zeH rts h1 h3));refine⟨rfl,_,?_,_,rfl,R2.hs.toExt,xdY h5⟩;rw[zqB,gE];simp only[Sem.run_bind,Sem.run_map,h4,Result.andThen_ok,Sem.run_pure]
    ·cases h1
   ·cases h1
  cases e with
  |normal=>obtain⟨h2,v,h3,v',h4,h5,h6⟩:=key h1;cases h4;exact⟨h2,v,h3,h5,v,rfl,h6⟩
  |ret=>obtain⟨h2,v,h3,v',h4,h5,h6⟩:=key h1;cases h4;exact⟨h2,v,h3,h5,v,rfl,h6⟩
  |exit i=>cases h1
theorem fn_ok{G:List (Nat×Obj)}{f:FuncId}{fn:Func}{ats:List Sh}{rts:List Ty}(hm:P.follows .mixedOrders=true)(hτ:TEok P τ)(hΓ:∀B,GB G B->CTok P Γ B)(hf:P.funcs[f]? = some fn)(hfn:IsFn P f)(hl:bM ats.length fn.ntmps=true):PCok P G f ⟨ats,rts,fnP τ Γ η fn ats rts,false⟩:=
 ⟨hfn,fun S0 w0 us a y hG hS ha hy=>(yrJ hm hτ (hΓ _ (yjY hG hS)) hf hl hS ha hy).mono fun _ _ h=>⟨h.1,h.2.imp fun _ h=>⟨h.1,h.2,fun h=>by cases h⟩⟩⟩
def cNJ:SV->Bool
 |.v t _=>noJk t|_=>false
def svNJ:SV->Bool
 |.v t _=>noJk t|.ag l=>l.all cNJ|_=>false
theorem yoX{S:Mem}:∀{l:List SV} {us:LV},l.all cNJ=true->A2 (VC S []) l us->A2 (VC (cut S) []) l us
 |_,_,_,.nil=>.nil|x::_,_,hj,.cons h t=>by
  rw[cO,aK]at hj;refine .cons ?_ (yoX hj.2 t);have hj:=hj.1;cases x with
  |v t x=>exact zlQ t hj _ _ h|_=>cases hj
theorem vr_cut{S:Mem}:∀{x:SV} {u:Value},svNJ x=true->VR S [] x u->VR (cut S) [] x u:=fun {x u} hj h=>by
 cases x with
 |v t x=>exact zlQ t hj _ _ h|ag l=>obtain⟨us,e,h⟩:=(show ∃us,u = .agg us.toArray/\A2 (VC S []) l us from h);exact⟨us,e,yoX hj h⟩
 |_=>cases hj
theorem ytG{S:Mem}:∀{l:List SV} {us:LV},l.all svNJ=true->A2 (VR S []) l us->A2 (VR (cut S) []) l us
 |_,_,_,.nil=>.nil|_,_,hj,.cons h t=>by rw[cO,aK]at hj;exact .cons (vr_cut hj.1 h) (ytG hj.2 t)
theorem ysC{S:Mem}{w:World}(h:Sub S w):Sub (cut S) w:=fun b o e=>h b o (xcZ b o e)
theorem cut_gr{S:Mem}{w w':World}:Mem.le (gr (cut S) w w') (gr S w w'):=fun b o e=>by
 unfold gr at e ⊢;split at e
 ·rename_i h;rw[zH h];exact xcZ b o e
 ·rename_i h;rw[zG h];exact e
theorem ysB{S T:Mem}(hl:Mem.le S T){l:List Ty}{u:Value}{x:zcM l}(h:repR S l u x):repR T l u x:=by
 match l,x,h with
 |[],_,⟨us,hu,h⟩=>exact⟨us,hu,h⟩|[t],_,h=>exact rep1.mono h hl|t::t'::l,_,⟨us,hu,h⟩=>exact⟨us,hu,zwR hl _ h⟩
theorem fnJ_ok{G:List (Nat×Obj)}{f:FuncId}{fn:Func}{ats:List Sh}{rts:List Ty}(hm:P.follows .mixedOrders=true)(hτ:TEok P τ)(hΓ:∀B,GB G B->NoJ B.S0->CTok P Γ B)(hGj:(G.all fun p=>!isJ p.2)=true)(hA:∀a:zcM (ats.flatMap Sh.tys),(putL ats (zhN _ a)).1.all svNJ=true)(hf:P.funcs[f]? = some fn)(hfn:IsFn P f)(hl:bM ats.length fn.ntmps=true):PCok P G f ⟨ats,rts,fnP τ Γ η fn ats rts,false⟩:=by refine⟨hfn,fun S0 w0 us a y hG hS ha hy=>?_⟩;have hG':GS G (cut S0):=fun p hp=>ydU (hG p hp) (by simpa using List.all_eq_true.1 hGj p hp);exact(yrJ hm hτ (hΓ _ (yjY hG' (ysC hS)) xeA) hf hl (ysC hS) (ytG (hA a) ha) hy).mono fun _ _ h=>⟨h.1,h.2.imp fun _ h=>⟨h.1,ysB cut_gr h.2,fun h=>by cases h⟩⟩
theorem ykZ:∀(us:LV) (pre:LV),zvK (fun t=>(pre++us).getD t undef) pre.length us.length=us
 |[],_=>rfl|u::us,pre=>by have h1:=ykZ us (pre++[u]);simp only[List.length_append,List.length_singleton,List.append_assoc,List.singleton_append]at h1;simp only[aN,zvK,h1];congr 1;simp
theorem yvQ(us:LV):zvK (fun t=>us.getD t undef) 0 us.length=us:=ykZ us []
theorem yyN(us:LV):(if h:us.toArray.size=1 then us.toArray[0]else .tuple us.toArray)=zwM us:=by
 match us with
 |[]=>rfl|[u]=>rfl|u::u'::us=>rw[dif_neg (by simp)];rfl
theorem yfK:∀{l:List ResultVar} {xs:List SV},zyP τ σ l=some xs->xs.length=l.length
 |[],_,h=>by cases h;rfl
 |v::l,_,h=>by
  unfold zyP at h;split at h
  ·rename_i h2;cases h;simp[yfK h2]
  ·cases h
theorem xaJ{X:List Nat}{f:FuncId}{fn:Func}{c:Code}{N0 nr:Nat}{outs:List (Option Nat×Shp)}{S0:Mem}{w0:World}{us:LV}{E0:List EI}{L0:List Res}{σ0:St}{d:DS outs}{rn:(Ex->St->Option (DS outs))->Option (DS outs)}(hτ:TEok P τ)(hf:P.funcs[f]? = some fn)(hb:fn.body=some c)(hl:us.length<=fn.ntmps)(hr:aG fn.results.toList.length nr=true) (R:RelV ⟨S0,X,w0⟩ S0 E0 L0 σ0 (fun t=>us.getD t undef) w0) (hg:Rel fn.ntmps ⟨S0,X,w0⟩ S0 E0 L0 σ0 (argm us 0) w0->Good P N0 fn.ntmps ⟨S0,X,w0⟩ c rn S0 E0 (argm us 0) w0) (hy:rn (finS τ fn N0 outs)=some d):Calls P f us.toArray w0 fun e w'=>∃v,e = .returned v/\∃S' E' L' σo V',(∀{γ:Type} (k:Ex->St->Option γ),out [] outs d k=k .normal σo)/\Mem.le S0 S'/\Pin N0 E0 E'/\RelV ⟨S0,X,w0⟩ S' E' L' σo V' w'/\Ver0 σo.hp/\N0<=σo.hp.length/\v=zwM (zvK V' 0 nr):=by
 refine enter hf hb rfl (Nat.ble_eq_true_of_le hl) ?_;have R0:Rel fn.ntmps ⟨S0,X,w0⟩ S0 E0 L0 σ0 (argm us 0) w0:=by
  refine⟨R.hs,R.lL,R.lE,R.obj,fun t=>?_⟩;have h1:=R.sl t;show VR S0 E0 (lkS σ0.sl t) (bif cM t fn.ntmps then look (argm us 0) t else undef);cases ht:cM t fn.ntmps with
  |true=>have:=ydW us 0 t;rw[zH (bX t)]at this;rw[zE,this];exact h1|false=>
   rw[zhR]at ht;have h2:=of_decide_eq_false ht;rw[zF];have h3:us.getD t undef=undef:=by rw[List.getD_eq_getElem?_getD,List.getElem?_eq_none (by omega)];rfl
   rw[<-h3];exact h1
 refine hg R0 (finS τ fn N0 outs) d _ hy fun e σ' S' E' L' m' w' h1 hS hP _ R1=>?_
 have key:∀(_:(match zyP τ σ' fn.results.toList with
   |some l=>inj N0 outs .normal ⟨argS 0 l,σ'.hp⟩|none=>none)=some d),(fr fn.ntmps m').defers=[]/\∃v,(results fn (fr fn.ntmps m').tmps).run P w' = .ok v w'/\∃v',Ending.returned v = .returned v'/\∃S' E' L' σo V',(∀{γ:Type} (k:Ex->St->Option γ),out [] outs d k=k .normal σo)/\Mem.le S0 S'/\Pin N0 E0 E'/\RelV ⟨S0,X,w0⟩ S' E' L' σo V' w'/\Ver0 σo.hp/\N0<=σo.hp.length/\v'=zwM (zvK V' 0 nr):=fun h1=>by
  split at h1
  ·rename_i l hl1;obtain⟨vs,h3,h4⟩:=ybO (P:=P) hτ R1 hl1
   have R2:RelV ⟨S0,X,w0⟩ S' E' L' ⟨argS 0 l,σ'.hp⟩ (fun t=>vs.getD t undef) w':=⟨R1.hs,R1.lL,R1.lE,R1.obj,fun t=>by
    have:=ybW 0 t h3;rw[zH (bX t)]at this
    exact this⟩
   obtain⟨S2,E2,L2,σ2,hS2,hP2,R3,hv,hn,h5⟩:=ztO R2 (kp:=[]) (fun _ _ _ _=>trivial) h1;refine⟨rfl,zwM vs,?_,zwM vs,rfl,S2,E2,L2,σ2,_,h5,Mem.le_trans hS hS2,hP.trans hP2,R3,hv,hn,?_⟩
   ·rw[zqB,gE];simp only[Sem.run_bind,Sem.run_map,h4,Result.andThen_ok,Sem.run_pure,<-yyN]
   ·have h6:vs.length=nr:=by rw[<-h3.len,yfK hl1];exact aB hr
    rw[<-h6,yvQ]
  ·cases h1
 cases e with
 |normal=>obtain⟨h2,v,h3,v',h4,h5⟩:=key h1;cases h4;exact⟨h2,v,h3,v,rfl,h5⟩
 |ret=>obtain⟨h2,v,h3,v',h4,h5⟩:=key h1;cases h4;exact⟨h2,v,h3,v,rfl,h5⟩
 |exit i=>cases h1
theorem yhG{X:List Nat}{f:FuncId}{fn:Func}{c:Code}{N0 nr:Nat}{outs:List (Option Nat×Shp)}{S0:Mem}{w0:World}{us:LV}{E0:List EI}{L0:List Res}{σ0:St}{d:DS outs}(hm:P.follows .mixedOrders=true)(hτ:TEok P τ)(hΓ:CTok P Γ ⟨S0,X,w0⟩)(hf:P.funcs[f]? = some fn)(hb:fn.body=some c)(hl:us.length<=fn.ntmps)(hr:aG fn.results.toList.length nr=true) (R:RelV ⟨S0,X,w0⟩ S0 E0 L0 σ0 (fun t=>us.getD t undef) w0) (hy:run N0 fn.ntmps τ Γ η c σ0 (finS τ fn N0 outs)=some d):Calls P f us.toArray w0 fun e w'=>∃v,e = .returned v/\∃S' E' L' σo V',(∀{γ:Type} (k:Ex->St->Option γ),out [] outs d k=k .normal σo)/\Mem.le S0 S'/\Pin N0 E0 E'/\RelV ⟨S0,X,w0⟩ S' E' L' σo V' w'/\Ver0 σo.hp/\N0<=σo.hp.length/\v=zwM (zvK V' 0 nr):=
 xaJ hτ hf hb hl hr R (fun R0=>zoJ hm hτ hΓ c R0) hy
theorem yqU{G:List (Nat×Obj)}{mb:Bool}{f:FuncId}{fn:Func}{I:Shp}{nr:Nat}{outs:List (Option Nat×Shp)}(hm:P.follows .mixedOrders=true)(hτ:TEok P τ)(hΓ:∀B,GB G B->MB mb B->CTok P Γ B)(hf:P.funcs[f]? = some fn)(hfn:IsFn P f)(hl:bM I.sl.length fn.ntmps=true)(hr:aG fn.results.toList.length nr=true):SCokX P G mb f ⟨I,nr,outs,fnS τ Γ η fn I outs⟩:=by
 refine⟨hfn,fun S0 w0 us E0 L0 a d hG hul R hy=>?_⟩;have hy:fnS τ Γ η fn I outs a=some d:=hy;have hul:us.length=I.sl.length:=hul;unfold fnS at hy;split at hy
 ·cases hy
 ·rename_i c hb;exact yhG hm hτ (hΓ _ (gb_in hG R.hs) MB.may) hf hb (by rw[hul];exact aR hl) hr R hy
theorem fnS_ok{G:List (Nat×Obj)}{f:FuncId}{fn:Func}{I:Shp}{nr:Nat}{outs:List (Option Nat×Shp)}(hm:P.follows .mixedOrders=true)(hτ:TEok P τ)(hΓ:∀B,GB G B->CTok P Γ B)(hf:P.funcs[f]? = some fn)(hfn:IsFn P f)(hl:bM I.sl.length fn.ntmps=true)(hr:aG fn.results.toList.length nr=true):SCok P G f ⟨I,nr,outs,fnS τ Γ η fn I outs⟩:=
 (yqU hm hτ (fun B h _=>hΓ B h) hf hfn hl hr).plain
end
def PL(P:Program)(G:List (Nat×Obj)):List (Nat×PC)->Prop
 |[]=>True|x::l=>PCok P G x.1 x.2/\PL P G l
def SL(P:Program)(G:List (Nat×Obj)):List (Nat×SC)->Prop
 |[]=>True|x::l=>SCok P G x.1 x.2/\SL P G l
theorem PL.at{P:Program}{G:List (Nat×Obj)}:∀{l:List (Nat×PC)},PL P G l->∀f c,pcAt l f=some c->PCok P G f c
 |[],_,f,c,h=>by cases h
 |(d,x)::l,⟨h1,h2⟩,f,c,h=>by
  unfold pcAt at h;cases hb:aG d f with
  |true=>rw[hb]at h;cases h;rw[<-aB hb];exact h1
  |false=>rw[hb]at h;exact PL.at h2 f c h
theorem SL.at{P:Program}{G:List (Nat×Obj)}:∀{l:List (Nat×SC)},SL P G l->∀f c,c∈scAt l f->SCok P G f c
 |[],_,f,c,h=>by cases h
 |(d,x)::l,⟨h1,h2⟩,f,c,h=>by
  unfold scAt at h;cases hb:aG d f with
  |true=>
   rw[hb]at h;rcases aT.1 h with rfl|h
   ·rw[<-aB hb];exact h1
   ·exact SL.at h2 f c h
  |false=>rw[hb]at h;exact SL.at h2 f c h
theorem ctok{P:Program}{G:List (Nat×Obj)}{pc:List (Nat×PC)}{sc:List (Nat×SC)}{k:Bool}{fm:List (Nat×List FSh)}(h1:PL P G pc)(h2:SL P G sc)(hj:fmAt fm 999999999=none:=by rfl)(hk:fmAt fm 999999998=none:=by rfl):∀B,GB G B->CTok P ⟨pc,sc,k,fm⟩ B:=fun B hG=>by
 have hm:mbOf ⟨pc,sc,k,fm⟩=false:=by unfold mbOf;rw[show(CT.mk pc sc k fm).fm=fm from rfl,hk];rfl
 exact⟨fun f c h=>⟨(h1.at f c h).fn,fun S w us a y hA=>(h1.at f c h).ok S w us a y (hA.gs hG)⟩,by rw[hm];exact fun f c h=>⟨(h2.at f c h).fn,fun S w us E L a d hA=>(h2.at f c h).ok S w us E L a d (hA.gs hG)⟩,by rw[hm];exact fun h=>(by cases h),fun h=>by unfold jnOf at h;rw[show(CT.mk pc sc k fm).fm=fm from rfl,hj]at h;cases h⟩
def SLX(P:Program)(G:List (Nat×Obj))(m:Bool):List (Nat×SC)->Prop
 |[]=>True|x::l=>SCokX P G m x.1 x.2/\SLX P G m l
theorem SLX.at{P:Program}{G:List (Nat×Obj)}{m:Bool}:∀{l:List (Nat×SC)},SLX P G m l->∀f c,c∈scAt l f->SCokX P G m f c
 |[],_,f,c,h=>by cases h
 |(d,x)::l,⟨h1,h2⟩,f,c,h=>by
  unfold scAt at h;cases hb:aG d f with
  |true=>
   rw[hb]at h;rcases aT.1 h with rfl|h
   ·rw[<-aB hb];exact h1
   ·exact SLX.at h2 f c h
  |false=>rw[hb]at h;exact SLX.at h2 f c h
theorem SL.x{P:Program}{G:List (Nat×Obj)}{m:Bool}:∀{l:List (Nat×SC)},SL P G l->SLX P G m l
 |[],_=>trivial|_::_,⟨h1,h2⟩=>⟨h1.x,h2.x⟩
theorem noJ_mb{m:Bool}{B:Bas}(h:NoJ B.S0):MB m B:=fun _ b o _ e hj=>by rw[h b o e]at hj;cases hj
theorem ctokX{P:Program}{G:List (Nat×Obj)}{pc:List (Nat×PC)}{sc:List (Nat×SC)}{k:Bool}{fm:List (Nat×List FSh)}(h1:PL P G pc)(h2:SLX P G (mbOf ⟨pc,sc,k,fm⟩) sc){B:Bas}(hG:GB G B)(hm:MB (mbOf ⟨pc,sc,k,fm⟩) B)(hj:jnOf ⟨pc,sc,k,fm⟩=true->NoJ B.S0):CTok P ⟨pc,sc,k,fm⟩ B:=
 ⟨fun f c h=>⟨(h1.at f c h).fn,fun S w us a y hA=>(h1.at f c h).ok S w us a y (hA.gs hG)⟩,fun f c h=>⟨(h2.at f c h).fn,fun S w us E L a d hA=>(h2.at f c h).ok S w us E L a d (hA.gs hG)⟩,hm,hj⟩
theorem zwN{P:Program}{G:List (Nat×Obj)}{pc:List (Nat×PC)}{sc:List (Nat×SC)}{k:Bool}(h1:PL P G pc)(h2:SLX P G true sc):∀B,GB G B->MB true B->CTok P ⟨pc,sc,k,[(999999998,[])]⟩ B:=fun _ hG hm=>ctokX (k:=k) (fm:=[(999999998,[])]) h1 h2 hG hm fun h=>by cases h
theorem fn_pc{P:Program}{G:List (Nat×Obj)}{τ:TE}{Γ:CT}{η:HT}{f:FuncId}{fn:Func}{c:PC}(hm:P.follows .mixedOrders=true)(hτ:TEok P τ)(hΓ:∀B,GB G B->CTok P Γ B)(hf:P.funcs[f]? = some fn)(hfn:IsFn P f)(hl:bM c.ash.length fn.ntmps=true)(hc:c.cl=false)(he:fnP τ Γ η fn c.ash c.rts=c.p):PCok P G f c:=by have h:=fn_ok (η:=η) (rts:=c.rts) hm hτ hΓ hf hfn hl;rw[he,<-hc]at h;exact h
theorem fn_pcJ{P:Program}{G:List (Nat×Obj)}{τ:TE}{Γ:CT}{η:HT}{f:FuncId}{fn:Func}{c:PC}(hm:P.follows .mixedOrders=true)(hτ:TEok P τ)(hΓ:∀B,GB G B->NoJ B.S0->CTok P Γ B)(hGj:(G.all fun p=>!isJ p.2)=true)(hA:∀a:zcM (c.ash.flatMap Sh.tys),(putL c.ash (zhN _ a)).1.all svNJ=true)(hf:P.funcs[f]? = some fn)(hfn:IsFn P f)(hl:bM c.ash.length fn.ntmps=true)(hc:c.cl=false)(he:fnP τ Γ η fn c.ash c.rts=c.p):PCok P G f c:=by have h:=fnJ_ok (η:=η) (rts:=c.rts) hm hτ hΓ hGj hA hf hfn hl;rw[he,<-hc]at h;exact h
theorem zrE{P:Program}{G:List (Nat×Obj)}{τ:TE}{Γ:CT}{η:HT}{f:FuncId}{fn:Func}{c:SC}(hm:P.follows .mixedOrders=true)(hτ:TEok P τ)(hΓ:∀B,GB G B->MB true B->CTok P Γ B)(hf:P.funcs[f]? = some fn)(hfn:IsFn P f)(hl:bM c.I.sl.length fn.ntmps=true)(hr:aG fn.results.toList.length c.nr=true)(he:fnS τ Γ η fn c.I c.outs=c.p):SCokX P G true f c:=by have h:=yqU (η:=η) (outs:=c.outs) hm hτ hΓ hf hfn hl hr;rw[he]at h;exact h
theorem fn_pcM{P:Program}{G:List (Nat×Obj)}{τ:TE}{Γ:CT}{η:HT}{f:FuncId}{fn:Func}{c:PC}(hm:P.follows .mixedOrders=true)(hτ:TEok P τ)(hΓ:∀B,GB G B->MB true B->CTok P Γ B)(hGj:(G.all fun p=>!isJ p.2)=true)(hA:∀a:zcM (c.ash.flatMap Sh.tys),(putL c.ash (zhN _ a)).1.all svNJ=true)(hf:P.funcs[f]? = some fn)(hfn:IsFn P f)(hl:bM c.ash.length fn.ntmps=true)(hc:c.cl=false)(he:fnP τ Γ η fn c.ash c.rts=c.p):PCok P G f c:=
 fn_pcJ hm hτ (fun B hB hJ=>hΓ B hB (noJ_mb hJ)) hGj hA hf hfn hl hc he
theorem fn_sc{P:Program}{G:List (Nat×Obj)}{τ:TE}{Γ:CT}{η:HT}{f:FuncId}{fn:Func}{c:SC}(hm:P.follows .mixedOrders=true)(hτ:TEok P τ)(hΓ:∀B,GB G B->CTok P Γ B)(hf:P.funcs[f]? = some fn)(hfn:IsFn P f)(hl:bM c.I.sl.length fn.ntmps=true)(hr:aG fn.results.toList.length c.nr=true)(he:fnS τ Γ η fn c.I c.outs=c.p):SCok P G f c:=by have h:=fnS_ok (η:=η) (outs:=c.outs) hm hτ hΓ hf hfn hl hr;rw[he]at h;exact h
abbrev hS:Sh:=.h .s
abbrev hI:Sh:=.h (.i .i64)
abbrev hB:Sh:=.h .b
def scal:Ty->Bool
 |.i _=>true|.b=>true|.s=>true|_=>false
def encV:(t:Ty)->den t->Value
 |.i k,x=>.int k (toI k x)|.b,x=>.bool x|.s,x=>str x|_,_=>undef
def encL:(l:List Ty)->zcM l->LV
 |[],_=>[]|[t],x=>[encV t x]|t::t'::l,x=>encV t x.1::encL (t'::l) x.2
def encR(l:List Ty)(x:zcM l):Value:=match l,x with
 |[t],x=>encV t x|l,x=>.tuple (encL l x).toArray
section
variable {S:Mem}{E:List EI}{P:Program}{G:List (Nat×Obj)}{f:FuncId}
theorem zxK:∀{t:Ty} {x:den t} {u:Value},scal t=true->VR S E (svOf t x) u->u=encV t x
 |.i k,x,u,_,h=>by have h:[u]=[Value.int k (toI k x)]:=h;exact(List.cons.inj h).1
 |.b,x,u,_,h=>by have h:[u]=[Value.bool x]:=h;exact(List.cons.inj h).1
 |.s,x,u,_,h=>by have h:[u]=[str x]:=h;exact(List.cons.inj h).1
theorem yaL:∀{t:Ty} {x:den t},scal t=true->rep1 t S (encV t x) x
 |.i _,_,_=>rfl|.b,_,_=>rfl|.s,_,_=>rfl
theorem yiV:∀{l:List Ty} {x:zcM l},l.all scal=true->repA S l (encL l x) x
 |[],_,_=>rfl|[t],x,h=>⟨_,rfl,yaL (by simpa using h)⟩|t::t'::l,x,h=>⟨_,_,rfl,yaL (by simp at h;exact h.1),yiV (by simp at h ⊢;exact h.2)⟩
theorem zwD{l:List Ty}{x:zcM l}(h:l.all scal=true):repR S l (encR l x) x:=match l,x,h with
 |[t],x,h=>show rep1 t S (encV t x) x from yaL (by simpa using h)
 |[],_,_=>⟨[],rfl,rfl⟩|t::t'::l,x,h=>⟨_,rfl,yiV h⟩
theorem pc1{t1:Ty}{rts:List Ty}{p:den t1->Option (zcM rts)}(h1:scal t1=true)(hr:rts.all scal=true)(hfn:IsFn P f) (h:∀S w x y,GS G S->Sub S w->p x=some y->Calls P f #[encV t1 x] w fun e w'=>e = .returned (encR rts y)/\Ext w w'):
  PCok P G f ⟨[.h t1],rts,p,false⟩:=by
 refine⟨hfn,fun S0 w0 us x y hG hS ha hy=>?_⟩;have ha:A2 (VR S0 []) [svOf t1 x] us:=ha;cases ha with
 |cons q1 q2=>cases q2;rw[zxK h1 q1];exact(h S0 w0 x y hG hS hy).mono fun e w' ⟨he,hx⟩=>⟨hx,_,he,zwD hr,fun h=>by cases h⟩
theorem pc2{t1 t2:Ty}{rts:List Ty}{p:den t1->den t2->Option (zcM rts)}(h1:scal t1=true)(h2:scal t2=true)(hr:rts.all scal=true)(hfn:IsFn P f) (h:∀S w x1 x2 y,GS G S->Sub S w->p x1 x2=some y->Calls P f #[encV t1 x1,encV t2 x2] w fun e w'=>e = .returned (encR rts y)/\Ext w w'):
  PCok P G f ⟨[.h t1,.h t2],rts,fun(x:den t1×den t2)=>p x.1 x.2,false⟩:=by
 refine⟨hfn,fun S0 w0 us (x:den t1×den t2) y hG hS ha hy=>?_⟩;have ha:A2 (VR S0 []) [svOf t1 x.1,svOf t2 x.2] us:=ha;cases ha with
 |cons q1 q2=>
  cases q2 with
  |cons q3 q4=>cases q4;rw[zxK h1 q1,zxK h2 q3];exact(h S0 w0 x.1 x.2 y hG hS hy).mono fun e w' ⟨he,hx⟩=>⟨hx,_,he,zwD hr,fun h=>by cases h⟩
end
section
variable {τ:TE}{P:Program}{G:List (Nat×Obj)}
theorem yxL{f:FuncId}{fn:Func}{c:Code}{e:Ty}{T:TypeId}(hm:P.follows .mixedOrders=true)(hτ:TEok P τ)(hf:P.funcs[f]? = some fn)(hfn:IsFn P f)(hb:fn.body=some c)(hl:bM 1 fn.ntmps=true)(hr:aG fn.results.toList.length 1=true) (h1:run 0 fn.ntmps τ ⟨[],[],false,[]⟩ [] c ⟨[(0,.nils)],[]⟩ (finS τ fn 0 [(none,⟨[(0,.nils)],[]⟩)])=some ()) (h2:∀xs:List (den e),run 0 fn.ntmps τ ⟨[],[],false,[]⟩ [] c ⟨[(0,.nn e xs)],[]⟩ (finS τ fn 0 [(none,⟨[(0,.own 0)],[.osl e T]⟩)])=aA (app [] xs) fun r=>some r):
  SCok P G f ⟨⟨[(0,.h (.sl e))],[]⟩,1,[(none,⟨[(0,.own 0)],[.osl e T]⟩)],fun xs=>app [] xs⟩:=by
 refine⟨hfn,fun S0 w0 us E0 L0 (xs:List (den e)) (d:List (den e)) _ hul R hy=>?_⟩;have hy:app [] xs=some d:=hy;have hul:us.length=1:=hul;have hle:us.length<=fn.ntmps:=by rw[hul];exact aR hl
 obtain⟨u,rfl⟩:∃u,us=[u]:=by
  match us,hul with
  |[u],_=>exact⟨u,rfl⟩
 have hu:VB S0 E0 (.v (.sl e) xs) u:=R.sl 0;obtain⟨v,hv,hrd⟩:=hu;injection hv with hv;subst hv
 have re:∀{x:SV},VR S0 E0 x u->RelV ⟨S0,zcC L0,w0⟩ S0 E0 L0 ⟨[(0,x)],[]⟩ (fun t=>[u].getD t undef) w0:=fun {x} hx=>⟨R.hs,R.lL,R.lE,R.obj,fun t=>by
  cases t with
  |zero=>exact hx|succ t=>trivial⟩
 by_cases hn:∃n c,u = .slice none n c
 ·have hu0:u = .slice none 0 0/\xs=[]:=by
   obtain⟨cs,k1,k2⟩:=hrd;obtain⟨n,c',hn⟩:=hn;rcases k1 with⟨⟨a0,k1⟩,k3,_⟩|⟨b',o,c2,ds,T2,fz,k1,_⟩
   ·rw[hn]at k1;injection k1 with _ e2 e3;exact⟨by rw[hn,e2,e3],aU k3⟩
   ·rw[hn]at k1;cases k1
  obtain⟨rfl,rfl⟩:=hu0;have hd:d=[]:=ybR hy;subst hd;refine(yhG hm hτ (ctok (G:=[]) (pc:=[]) (sc:=[]) (k:=false) trivial trivial (by rfl) (by rfl) _ (fun _ h=>by cases h)) hf hb hle hr (re (x:=.nils) rfl) h1).mono fun e' w' ⟨v,he,S',E',L',σo,V',ho,hS,hP,R',hv0,hn0,hres⟩=>?_;have hσ:σo=⟨[(0,.nils)],[]⟩:=by have:=ho (γ:=St) fun _ σ=>some σ;exact(osi this).symm
  subst hσ;have hl':L'.length=0:=R'.lL;have hE':E'.length=0:=R'.lE;have e1:L'=[]:=aU hl';have e2:E'=[]:=aU hE';subst e1;subst e2;have h0:V' 0 = .slice none 0 0:=R'.sl 0;refine⟨v,he,S',[.osl 0 (.slice none 0 0) (tsz e)],[.osl (.slice none 0 0) 0 (tsz e) [] [] T],⟨[(0,.own 0 0)],[.osl 0 e T []]⟩,V',fun k=>?_,hS,fun k e hk=>absurd hk (Nat.not_lt_zero k),⟨HS.nil R'.hs _ _,rfl,rfl,fun i o h=>?_,fun t=>?_⟩,?_,bX _,hres⟩
  ·show k (exOf none) _=_;have:(Shp.put (⟨[(0,.own 0)],[.osl e T]⟩:Shp) ([]:List (den e)))=⟨[(0,.own 0 0)],[.osl 0 e T []]⟩:=by
    obtain⟨q,hq⟩:=zdI e;have e0:∀y:den (.sl e),zdM [.osl e T] [.v (.sl e) y]=[.osl 0 e T y]:=fun y=>by rw[zdM,hq];rfl
    have e1:zdM [.osl e T] [.v (.sl e) ([]:List (den e))]=[.osl 0 e T []]:=e0 _;exact congrArg (fun hp=>(⟨[(0,.own 0 0)],hp⟩:St)) e1
   rw[this];rfl
  ·cases i with
   |zero=>cases h;exact⟨_,_,rfl,rfl,.slice none 0 0,.slice none 0 0,[],[],rfl,rfl,rfl,.inl rfl⟩
   |succ i=>cases h
  ·cases t with
   |zero=>exact VR.ofC (show VC S' _ (.own 0 0) (V' 0) by rw[h0];exact⟨rfl,_,rfl,fun r v s he=>by cases he;exact⟨aJ 0,fun _=>rfl⟩⟩)|succ t=>trivial
  ·intro i ver e' T' xs h;cases i with
   |zero=>cases h;rfl
   |succ i=>cases h
 ·exact(yhG hm hτ (ctok (G:=[]) (pc:=[]) (sc:=[]) (k:=false) trivial trivial (by rfl) (by rfl) _ (fun _ h=>by cases h)) hf hb hle hr (re (x:=.nn e xs) ⟨hrd,fun n c h=>hn ⟨n,c,h⟩⟩) ((h2 xs).trans (by rw[hy];rfl))).mono fun _ _ h=>h
end
class ycO (G:List (Nat×Obj)):Prop where
 ok:(G.all fun p=>!isJ p.2)=true
instance :ycO []:=⟨rfl⟩
theorem wit{p:Prop}{G:List (Nat×Obj)}[ycO G](h:p):p:=h
abbrev numT:Ty:=.pr (.i .u64) (.pr (.i .u64) (.pr (.i .u64) (.i .u64)))
abbrev ptT:Ty:=.pr numT (.pr numT .b)
theorem yuT{S:Mem}{us:LV}{x:Qw}(h:A2 (VC S []) (cellsOf numT x) us):us=cl24 x:=by
 cases h with
 |cons h1 h=>cases h with
  |cons h2 h=>cases h with
   |cons h3 h=>cases h with
    |cons h4 h=>cases h;have h1:[_]=[_]:=h1;have h2:[_]=[_]:=h2;have h3:[_]=[_]:=h3;have h4:[_]=[_]:=h4;rw[(List.cons.inj h1).1,(List.cons.inj h2).1,(List.cons.inj h3).1,(List.cons.inj h4).1];rfl
section
variable {G:List (Nat×Obj)}
def yuS(x:Qw):Option Qp:=zaZ x
def zsO:PC:=⟨[.h numT],[ptT],yuS,false⟩
theorem ybX:PCok aD G 35 zsO:=by
 refine⟨isFn Tryz.func35 (by kernel_rfl) (by kernel_rfl),fun S0 w0 us (x:Qw) (y:Qp) hG hS ha hy=>?_⟩;have ha:A2 (VR S0 []) [svOf numT x] us:=ha;cases ha with
 |cons q1 q2=>cases q2;obtain⟨vs,rfl,q3⟩:=(show ∃us,_=Value.agg us.toArray/\A2 (VC S0 []) (cellsOf numT x) us from q1);rw[yuT q3];have hy:zaZ x=some y:=hy;refine(zlV hS hy).mono fun e w' ⟨he,hx⟩=>⟨hx,_,he,?_,fun h=>by cases h⟩;show rep1 ptT _ _ y;unfold rep1;rw[zG (by decide)];exact⟨_,rfl,rp26c y⟩
end
def flat:Ty->Bool
 |.pr a c=>flat a&&flat c|.un=>true|t=>scal t
def encF:(t:Ty)->den t->LV
 |.pr a c,x=>encF a x.1++encF c x.2|.un,_=>[]|t,x=>[encV t x]
def encW(t:Ty)(x:den t):Value:=bif one t then encV t x else .agg (encF t x).toArray
section
variable {S:Mem}{E:List EI}
theorem zyV:∀{t:Ty} {x:den t} {us:LV},flat t=true->A2 (VC S E) (cellsOf t x) us->us=encF t x
 |.pr a c,x,us,h,hl=>by obtain⟨m1,m2,rfl,h1,h2⟩:=A2.app_inv hl;rw[zyV (zaT h) h1,zyV (zaW h) h2];rfl
 |.un,_,_,_,hl=>by cases hl;rfl
 |.i k,x,us,_,hl=>by obtain⟨u,rfl,h⟩:=hl.one;have h:[u]=[Value.int k (toI k x)]:=h;exact h
 |.b,x,us,_,hl=>by obtain⟨u,rfl,h⟩:=hl.one;have h:[u]=[Value.bool x]:=h;exact h
 |.s,x,us,_,hl=>by obtain⟨u,rfl,h⟩:=hl.one;have h:[u]=[str x]:=h;exact h
theorem zpX{t:Ty}{x:den t}{u:Value}(h:flat t=true)(hx:VR S E (svOf t x) u):u=encW t x:=by
 unfold encW;unfold svOf at hx;cases ho:one t with
 |true=>refine zxK (S:=S) (E:=E) ?_ (by unfold svOf;rw[ho];rw[ho]at hx;exact hx);cases t<;>first|exact h|(cases ho;done)
 |false=>rw[ho]at hx;obtain⟨us,rfl,hl⟩:=(show ∃us,u = .agg us.toArray/\A2 (VC S E) (cellsOf t x) us from hx);rw[zyV h hl];rfl
theorem zqI:∀{t:Ty} {x:den t},flat t=true->rep t S (encF t x) x
 |.pr a c,x,h=>⟨_,_,rfl,zqI (zaT h),zqI (zaW h)⟩|.un,_,_=>rfl|.i _,_,_=>rfl|.b,_,_=>rfl|.s,_,_=>rfl
theorem ykH{t:Ty}{x:den t}(h:flat t=true):rep1 t S (encW t x) x:=by
 unfold encW rep1;cases ho:one t with
 |true=>cases t<;>first|exact(rfl:[_]=[_])|(cases ho;done)|(cases h;done)
 |false=>exact⟨_,rfl,zqI h⟩
theorem xdI{t:Ty}{x:den t}(h:flat t=true):VR S E (svOf t x) (encW t x):=by
 have:=zqI (S:=S) (x:=x) h;unfold encW svOf;cases ho:one t with
 |true=>cases t<;>first|exact(rfl:[_]=[_])|(cases ho;done)|(cases h;done)
 |false=>exact(⟨_,rfl,zgL t this⟩:∃us,Value.agg (encF t x).toArray = .agg us.toArray/\A2 (VC S E) (cellsOf t x) us)
end
section
variable {P:Program}{G:List (Nat×Obj)}{f:FuncId}
theorem pf2{t1 t2 r:Ty}{p:den t1->den t2->Option (den r)}(h1:flat t1=true)(h2:flat t2=true)(hr:flat r=true)(hfn:IsFn P f) (h:∀S w x1 x2 y,Sub S w->p x1 x2=some y->Calls P f #[encW t1 x1,encW t2 x2] w fun e w'=>e = .returned (encW r y)/\Ext w w'):
  PCok P G f ⟨[.h t1,.h t2],[r],fun(x:den t1×den t2)=>p x.1 x.2,false⟩:=by
 refine⟨hfn,fun S0 w0 us (x:den t1×den t2) y hG hS ha hy=>?_⟩;have ha:A2 (VR S0 []) [svOf t1 x.1,svOf t2 x.2] us:=ha;cases ha with
 |cons q1 q2=>cases q2 with
  |cons q3 q4=>cases q4;rw[zpX h1 q1,zpX h2 q3];exact(h S0 w0 x.1 x.2 y hS hy).mono fun e w' ⟨he,hx⟩=>⟨hx,_,he,ykH hr,fun h=>by cases h⟩
theorem pf3{t1 t2 t3 r:Ty}{p:den t1->den t2->den t3->Option (den r)}(h1:flat t1=true)(h2:flat t2=true)(h3:flat t3=true)(hr:flat r=true)(hfn:IsFn P f) (h:∀S w x1 x2 x3 y,Sub S w->p x1 x2 x3=some y->Calls P f #[encW t1 x1,encW t2 x2,encW t3 x3] w fun e w'=>e = .returned (encW r y)/\Ext w w'):
  PCok P G f ⟨[.h t1,.h t2,.h t3],[r],fun(x:den t1×den t2×den t3)=>p x.1 x.2.1 x.2.2,false⟩:=by
 refine⟨hfn,fun S0 w0 us (x:den t1×den t2×den t3) y hG hS ha hy=>?_⟩;have ha:A2 (VR S0 []) [svOf t1 x.1,svOf t2 x.2.1,svOf t3 x.2.2] us:=ha;cases ha with
 |cons q1 q2=>cases q2 with
  |cons q3 q4=>cases q4 with
   |cons q5 q6=>cases q6;rw[zpX h1 q1,zpX h2 q3,zpX h3 q5];exact(h S0 w0 x.1 x.2.1 x.2.2 y hS hy).mono fun e w' ⟨he,hx⟩=>⟨hx,_,he,ykH hr,fun h=>by cases h⟩
def macP(key s:Bs):Option Bs:=bif decide (key.length<=68719470000)&&decide (s.length<=68719460000)then some (macF key s)else none
def znP:PC:=⟨[.h .s,.h .s],[.s],fun x=>macP x.1 x.2,false⟩
theorem zrL:PCok aD G 46 znP:=pc2 (t1:=.s) (t2:=.s) (rts:=[.s]) rfl rfl rfl (isFn Tryz.func46 (by kernel_rfl) (by kernel_rfl)) fun _ _ x1 x2 y _ hS h=>by unfold macP at h;obtain⟨hb,h⟩:=zaJ h;simp only[aK,zD]at hb;cases h;exact zgW hS (zrW hb.1 hb.2)
def yzD(x y:Bs):Option Bool:=bif decide (x.length<=68719476736)&&decide (y.length<=68719476736)then some (x==y)else none
def zuY:PC:=⟨[.h .s,.h .s],[.b],fun x=>yzD x.1 x.2,false⟩
theorem ydI:PCok aD G 79 zuY:=pc2 (t1:=.s) (t2:=.s) (rts:=[.b]) rfl rfl rfl (isFn Tryz.func79 (by kernel_rfl) (by kernel_rfl)) fun _ _ x1 x2 y _ hS h=>by unfold yzD at h;obtain⟨hb,h⟩:=zaJ h;simp only[aK,zD]at hb;cases h;exact zxY hS (ykY hb.1 hb.2)
def ybU(x:Bs):Option Bs:=bif decide (x.length<=4194304)then some (b64 x)else none
def zoU:PC:=⟨[.h .s],[.s],ybU,false⟩
theorem zxP:PCok aD G 129 zoU:=pc1 (t1:=.s) (rts:=[.s]) rfl rfl (isFn Tryz.func129 (by kernel_rfl) (by kernel_rfl)) fun _ _ x y _ hS h=>by unfold ybU at h;obtain⟨hb,h⟩:=zaJ h;cases h;exact zrA hS (yaE _ (zC hb))
noncomputable def yaR(m:Int)(s:Bs):Option Qw:=zdC m s
noncomputable def zoZ:PC:=⟨[.h (.i .i64),.h .s],[numT],fun x=>yaR x.1 x.2,false⟩
theorem zxG:PCok aD G 86 zoZ:=pf2 (t1:=.i .i64) (t2:=.s) (r:=numT) rfl rfl rfl (isFn Tryz.func86 (by kernel_rfl) (by kernel_rfl)) fun _ _ _ _ _ hS h=>zmH hS h
noncomputable def ydG(q:Qp)(s g:Bs):Option Bool:=zeN q s g
noncomputable def zrD:PC:=⟨[.h ptT,.h .s,.h .s],[.b],fun x=>ydG x.1 x.2.1 x.2.2,false⟩
theorem zzF:PCok aD G 14 zrD:=pf3 (t1:=ptT) (t2:=.s) (t3:=.s) (r:=.b) rfl rfl rfl rfl (isFn Tryz.func14 (by kernel_rfl) (by kernel_rfl)) fun _ _ _ _ _ _ hS h=>ztD hS h
noncomputable def yzR(d:Qw)(s:Bs):Option (Bs×Int):=zgK d s
noncomputable def zvA:PC:=⟨[.h numT,.h .s],[.s,.i .i64],fun x=>yzR x.1 x.2,false⟩
theorem yeE:PCok aD G 12 zvA:=by
 refine⟨isFn Tryz.func12 (by kernel_rfl) (by kernel_rfl),fun S0 w0 us (x:den numT×Bs) (y:Bs×Int) hG hS ha hy=>?_⟩;have ha:A2 (VR S0 []) [svOf numT x.1,svOf .s x.2] us:=ha;cases ha with
 |cons q1 q2=>cases q2 with
  |cons q3 q4=>cases q4;rw[zpX (t:=numT) rfl q1,zpX (t:=.s) rfl q3];have hy:zgK x.1 x.2=some y:=hy;exact(zxD hS hy).mono fun e w' ⟨he,hx⟩=>⟨hx,_,he,zwD (l:=[.s,.i .i64]) rfl,fun h=>by cases h⟩
def yiU:PC:=⟨[],[.b],fun _=>some true,false⟩
theorem yxH:PCok aD G 11 yiU:=by refine⟨isFn Tryz.func11 (by kernel_rfl) (by kernel_rfl),fun S0 w0 us x y hG hS ha hy=>?_⟩;cases ha;have hy:some true=some y:=hy;cases hy;exact(ymU hS yyK).mono fun e w' ⟨he,hx⟩=>⟨hx,_,he,zwD (l:=[.b]) rfl,fun h=>by cases h⟩
end
def τWkQ:TE:=[(9,⟨.s,1,[.v .s (show Bs from [])],.s,16⟩),
 (22,⟨.int .u64,1,[.v (.i .u64) (show UInt64 from 0)],(.i .u64),8⟩),
 (24,⟨.ar 4 22,4,[.v (.i .u64) (show UInt64 from 0),.v (.i .u64) (show UInt64 from 0),.v (.i .u64) (show UInt64 from 0),.v (.i .u64) (show UInt64 from 0)],(.pr (.i .u64) (.pr (.i .u64) (.pr (.i .u64) (.i .u64)))),32⟩),
 (26,⟨.st [(24,0),(24,4),(4,8)],9,[.v (.i .u64) (show UInt64 from 0),.v (.i .u64) (show UInt64 from 0),.v (.i .u64) (show UInt64 from 0),.v (.i .u64) (show UInt64 from 0),.v (.i .u64) (show UInt64 from 0),.v (.i .u64) (show UInt64 from 0),.v (.i .u64) (show UInt64 from 0),.v (.i .u64) (show UInt64 from 0),.v .b (show Bool from false)],(.pr (.pr (.i .u64) (.pr (.i .u64) (.pr (.i .u64) (.i .u64)))) (.pr (.pr (.i .u64) (.pr (.i .u64) (.pr (.i .u64) (.i .u64)))) .b)),72⟩),
 (115,⟨.st [(105,0),(109,0),(113,1)],3,[.v (.i .u32) (show UInt32 from 0),.v (.i .i32) (show Int from 0),.v (.i .u32) (show UInt32 from 0)],(.pr .un (.pr (.pr .un (.i .u32)) (.pr .un (.pr (.i .i32) (.i .u32))))),12⟩),
 (117,⟨.st [(9,0),(9,1),(9,2),(24,3),(115,7),(26,10)],19,[.v .s (show Bs from []),.v .s (show Bs from []),.v .s (show Bs from []),.v (.i .u64) (show UInt64 from 0),.v (.i .u64) (show UInt64 from 0),.v (.i .u64) (show UInt64 from 0),.v (.i .u64) (show UInt64 from 0),.v (.i .u32) (show UInt32 from 0),.v (.i .i32) (show Int from 0),.v (.i .u32) (show UInt32 from 0),.v (.i .u64) (show UInt64 from 0),.v (.i .u64) (show UInt64 from 0),.v (.i .u64) (show UInt64 from 0),.v (.i .u64) (show UInt64 from 0),.v (.i .u64) (show UInt64 from 0),.v (.i .u64) (show UInt64 from 0),.v (.i .u64) (show UInt64 from 0),.v (.i .u64) (show UInt64 from 0),.v .b (show Bool from false)],(.pr .s (.pr .s (.pr .s (.pr (.pr (.i .u64) (.pr (.i .u64) (.pr (.i .u64) (.i .u64)))) (.pr (.pr .un (.pr (.pr .un (.i .u32)) (.pr .un (.pr (.i .i32) (.i .u32))))) (.pr (.pr (.i .u64) (.pr (.i .u64) (.pr (.i .u64) (.i .u64)))) (.pr (.pr (.i .u64) (.pr (.i .u64) (.pr (.i .u64) (.i .u64)))) .b))))))),168⟩)]
theorem τ_okWkQ:TEok aD τWkQ:=ypG (by kernel_rfl) (by kernel_rfl)
theorem xbS:Tryz.prog.follows .mixedOrders=true:=by kernel_rfl
section
variable {tabs:List (Nat×Obj)}[ycO tabs]
def zbQ:Option Qw:=
 some ((0:UInt64),(0:UInt64),(0:UInt64),(0:UInt64))
def zuQ:PC:=⟨[],[(.pr (.i .u64) (.pr (.i .u64) (.pr (.i .u64) (.i .u64))))],fun _=>zbQ,false⟩
theorem yfT:PCok aD tabs 48 zuQ:=wit (G:=tabs)<|fn_pc (η:=[]) (Γ:=⟨[],[],false,[]⟩) xbS τ_okWkQ (ctok trivial trivial) Tryz.func48 (isFn Tryz.func48) (by kernel_rfl) rfl (by kernel_rfl)
noncomputable def zpM(v2:Qw):Option (Qw):=
 (zbQ).bind fun v3=>let v4:Bool:=((decide ((v2.1.toNat:Int)=(v3.1.toNat:Int)))&&((decide ((v2.2.1.toNat:Int)=(v3.2.1.toNat:Int)))&&((decide ((v2.2.2.1.toNat:Int)=(v3.2.2.1.toNat:Int)))&&(decide ((v2.2.2.2.toNat:Int)=(v3.2.2.2.toNat:Int))))))
 bif v4 then some ((1:UInt64),(0:UInt64),(0:UInt64),(0:UInt64))else some v2
noncomputable def ziY(v0:Bs):Option ((Bs×Bs×Bs×UInt64×UInt64×UInt64×UInt64×UInt32×Int×UInt32×UInt64×UInt64×UInt64×UInt64×UInt64×UInt64×UInt64×UInt64×Bool)):=
 (macP ([107,101,121]:Bs) v0).bind fun v1=>(yaR (1:Int) v1).bind fun v2=>(zpM v2).bind fun v5=>(macP ([107,105,100]:Bs) v0).bind fun v6=>(subH v6 (9:Int)).bind fun v7=>(ybU v7).bind fun v8=>(macP ([109,97,99]:Bs) v0).bind fun v9=>some (v0,v8,v9,v5.1,v5.2.1,v5.2.2.1,v5.2.2.2,(0:UInt32),(0:Int),(0:UInt32),(0:UInt64),(0:UInt64),(0:UInt64),(0:UInt64),(0:UInt64),(0:UInt64),(0:UInt64),(0:UInt64),false)
noncomputable def yeM:SC:=⟨⟨[(0,hS)],[]⟩,1,[(none,⟨[(0,(.ptr 0 0))],[.blk 117 [hS,hS,hS,(.h (.i .u64)),(.h (.i .u64)),(.h (.i .u64)),(.h (.i .u64)),(.h (.i .u32)),(.h (.i .i32)),(.h (.i .u32)),(.h (.i .u64)),(.h (.i .u64)),(.h (.i .u64)),(.h (.i .u64)),(.h (.i .u64)),(.h (.i .u64)),(.h (.i .u64)),(.h (.i .u64)),hB]]⟩)],fun x=>ziY x⟩
theorem yfZ:SCok aD tabs 72 yeM:=wit (G:=tabs)<|fn_sc (η:=[(2000004,.join [] [0] [(none,⟨[(3,(.ptr 0 0))],[.blk 24 [(.h (.i .u64)),(.h (.i .u64)),(.h (.i .u64)),(.h (.i .u64))]]⟩)]),
 (4000002,.sch [(.pu,0,[]),(.mn,1,[]),(.pu,2,[])]),
 (4000004,.sch [(.pu,0,[]),(.pu,1,[]),(.pu,5,[]),(.pu,7,[]),(.mn,2,[]),(.pu,3,[]),(.mn,4,[]),(.mn,6,[]),(.pu,8,[]),(.mn,9,[0]),(.pu,10,[])])]) (Γ:=⟨[(46,znP),(86,zoZ),(48,zuQ),(129,zoU)],[],false,[]⟩) xbS τ_okWkQ (ctok ⟨zrL,⟨zxG,⟨yfT,⟨zxP,trivial⟩⟩⟩⟩ trivial) Tryz.func72 (isFn Tryz.func72) (by kernel_rfl) (by kernel_rfl) (by kernel_rfl)
end
def τWkO:TE:=[(24,⟨.ar 4 22,4,[.v (.i .u64) (show UInt64 from 0),.v (.i .u64) (show UInt64 from 0),.v (.i .u64) (show UInt64 from 0),.v (.i .u64) (show UInt64 from 0)],(.pr (.i .u64) (.pr (.i .u64) (.pr (.i .u64) (.i .u64)))),32⟩),
 (26,⟨.st [(24,0),(24,4),(4,8)],9,[.v (.i .u64) (show UInt64 from 0),.v (.i .u64) (show UInt64 from 0),.v (.i .u64) (show UInt64 from 0),.v (.i .u64) (show UInt64 from 0),.v (.i .u64) (show UInt64 from 0),.v (.i .u64) (show UInt64 from 0),.v (.i .u64) (show UInt64 from 0),.v (.i .u64) (show UInt64 from 0),.v .b (show Bool from false)],(.pr (.pr (.i .u64) (.pr (.i .u64) (.pr (.i .u64) (.i .u64)))) (.pr (.pr (.i .u64) (.pr (.i .u64) (.pr (.i .u64) (.i .u64)))) .b)),72⟩),
 (99,⟨.pt 117,1,[.nilp],.un,8⟩),
 (117,⟨.st [(9,0),(9,1),(9,2),(24,3),(115,7),(26,10)],19,[.v .s (show Bs from []),.v .s (show Bs from []),.v .s (show Bs from []),.v (.i .u64) (show UInt64 from 0),.v (.i .u64) (show UInt64 from 0),.v (.i .u64) (show UInt64 from 0),.v (.i .u64) (show UInt64 from 0),.v (.i .u32) (show UInt32 from 0),.v (.i .i32) (show Int from 0),.v (.i .u32) (show UInt32 from 0),.v (.i .u64) (show UInt64 from 0),.v (.i .u64) (show UInt64 from 0),.v (.i .u64) (show UInt64 from 0),.v (.i .u64) (show UInt64 from 0),.v (.i .u64) (show UInt64 from 0),.v (.i .u64) (show UInt64 from 0),.v (.i .u64) (show UInt64 from 0),.v (.i .u64) (show UInt64 from 0),.v .b (show Bool from false)],(.pr .s (.pr .s (.pr .s (.pr (.pr (.i .u64) (.pr (.i .u64) (.pr (.i .u64) (.i .u64)))) (.pr (.pr .un (.pr (.pr .un (.i .u32)) (.pr .un (.pr (.i .i32) (.i .u32))))) (.pr (.pr (.i .u64) (.pr (.i .u64) (.pr (.i .u64) (.i .u64)))) (.pr (.pr (.i .u64) (.pr (.i .u64) (.pr (.i .u64) (.i .u64)))) .b))))))),168⟩)]
theorem τ_okWkO:TEok aD τWkO:=ypG (by kernel_rfl) (by kernel_rfl)
theorem mixWkO:Tryz.prog.follows .mixedOrders=true:=by kernel_rfl
section
variable {tabs:List (Nat×Obj)}[ycO tabs]
def ziH(v0:Bs)(v1:Bs)(v2:Bs)(v3:UInt64)(v4:UInt64)(v5:UInt64)(v6:UInt64)(v7:UInt32)(v8:Int)(v9:UInt32)(_v10:UInt64)(_v11:UInt64)(_v12:UInt64)(_v13:UInt64)(_v14:UInt64)(_v15:UInt64)(_v16:UInt64)(_v17:UInt64)(_v18:Bool):Option ((Bs×Bs×Bs×UInt64×UInt64×UInt64×UInt64×UInt32×Int×UInt32×UInt64×UInt64×UInt64×UInt64×UInt64×UInt64×UInt64×UInt64×Bool)):=
 (yuS (v3,v4,v5,v6)).bind fun v19=>some (v0,v1,v2,v3,v4,v5,v6,v7,v8,v9,v19.1.1,v19.1.2.1,v19.1.2.2.1,v19.1.2.2.2,v19.2.1.1,v19.2.1.2.1,v19.2.1.2.2.1,v19.2.1.2.2.2,v19.2.2)
def zrO:SC:=⟨⟨[(0,(.ptr 0 0))],[.blk 99 [(.ptr 1 0)],.blk 117 [hS,hS,hS,(.h (.i .u64)),(.h (.i .u64)),(.h (.i .u64)),(.h (.i .u64)),(.h (.i .u32)),(.h (.i .i32)),(.h (.i .u32)),(.h (.i .u64)),(.h (.i .u64)),(.h (.i .u64)),(.h (.i .u64)),(.h (.i .u64)),(.h (.i .u64)),(.h (.i .u64)),(.h (.i .u64)),hB]]⟩,0,[(none,⟨[],[.blk 99 [(.ptr 1 0)],.blk 117 [hS,hS,hS,(.h (.i .u64)),(.h (.i .u64)),(.h (.i .u64)),(.h (.i .u64)),(.h (.i .u32)),(.h (.i .i32)),(.h (.i .u32)),(.h (.i .u64)),(.h (.i .u64)),(.h (.i .u64)),(.h (.i .u64)),(.h (.i .u64)),(.h (.i .u64)),(.h (.i .u64)),(.h (.i .u64)),hB]]⟩)],fun x=>ziH x.1 x.2.1 x.2.2.1 x.2.2.2.1 x.2.2.2.2.1 x.2.2.2.2.2.1 x.2.2.2.2.2.2.1 x.2.2.2.2.2.2.2.1 x.2.2.2.2.2.2.2.2.1 x.2.2.2.2.2.2.2.2.2.1 x.2.2.2.2.2.2.2.2.2.2.1 x.2.2.2.2.2.2.2.2.2.2.2.1 x.2.2.2.2.2.2.2.2.2.2.2.2.1 x.2.2.2.2.2.2.2.2.2.2.2.2.2.1 x.2.2.2.2.2.2.2.2.2.2.2.2.2.2.1 x.2.2.2.2.2.2.2.2.2.2.2.2.2.2.2.1 x.2.2.2.2.2.2.2.2.2.2.2.2.2.2.2.2.1 x.2.2.2.2.2.2.2.2.2.2.2.2.2.2.2.2.2.1 x.2.2.2.2.2.2.2.2.2.2.2.2.2.2.2.2.2.2⟩
theorem zsD:SCok aD tabs 132 zrO:=wit (G:=tabs)<|fn_sc (η:=[(4000000,.sch (zpu 0 5++[(.mn,5,[]),(.pu,6,[]),(.pu,7,[]),(.mn,8,[1])]))]) (Γ:=⟨[(35,zsO)],[],false,[]⟩) mixWkO τ_okWkO (ctok ⟨ybX,trivial⟩ trivial) Tryz.func132 (isFn Tryz.func132) (by kernel_rfl) (by kernel_rfl) (by kernel_rfl)
end
end Go.Proofs.YtmbcolbbekbccaaGreat.Am
namespace Go.Proofs.YtmbcolbbekbccaaGreat
open Go Go.Conc.Locks
abbrev muLink:MuLink:={ lock:=168,unlock:=169,ilock:=171,iunlock:=172,lockSlow:=179,unlockSlow:=182,disable:=175,enable:=177,acquire:=178,relMerge:=180,cas32:=176,add32:=181,tMutex:=113,tIMutex:=111,tPMutex:=200,tPIMutex:=203,tPI32:=205,tUP:=190,tNoCopy:=105,tU32:=107 }
theorem muLib:MuLib aD muLink:=by
 refine⟨?_,?_,?_,?_,?_,?_,?_,?_,?_,?_,?_,?_,?_,?_,?_,?_,?_,?_,?_,?_,?_,?_,?_,?_,?_,?_,?_,?_,?_,?_,?_,?_,?_,?_,?_,?_,?_,?_,?_,?_,?_,?_,?_,?_,?_,?_,?_,?_,?_,?_,?_⟩
 all_goals first|kernel_rfl|(intro w;kernel_rfl)
end Go.Proofs.YtmbcolbbekbccaaGreat
namespace Go.Proofs.YtmbcolbbekbccaaGreat.Am
open Go Go.RowKit
def enc1:SV->Value
 |.v t x=>encV t x|_=>undef
def sc1:SV->Bool
 |.v t _=>scal t|_=>false
theorem zpK{S:Mem}{E:List EI}:∀{l:List SV} {us:LV},l.all sc1=true->A2 (VC S E) l us->us=l.map enc1
 |_,_,_,.nil=>rfl|x::_,_,hs,.cons (b:=u) h t=>by
  rw[cO,aK]at hs;have h0:=hs.1;have e:u=enc1 x:=by
   cases x with
   |v t x=>
    refine zxK (t:=t) (x:=x) (S:=S) (E:=E) h0 ?_;cases t with
    |i k=>exact h|b=>exact h|s=>exact h|_=>cases h0
   |_=>cases h0
  rw[zpK hs.2 t,List.map_cons,e]
theorem zsX{S:Mem}{E:List EI}:∀{l:List SV},l.all sc1=true->A2 (VC S E) l (l.map enc1)
 |[],_=>.nil|x::l,hs=>by
  rw[cO,aK]at hs;refine .cons ?_ (zsX hs.2);have h0:=hs.1;cases x with
  |v t x=>
   cases t with
   |i k=>exact(rfl:[_]=[_])|b=>exact(rfl:[_]=[_])|s=>exact(rfl:[_]=[_])|_=>cases h0
  |_=>cases h0
abbrev W4:Type:=Qw
abbrev P9:Type:=W4×W4×Bool
def keyS(s k m:Bs)(d:W4)(o:UInt32)(st:Int)(q:P9):List SV:=
 [.v .s s,.v .s k,.v .s m,.v (.i .u64) d.1,.v (.i .u64) d.2.1,.v (.i .u64) d.2.2.1,.v (.i .u64) d.2.2.2,.v (.i .u32) o,.v (.i .i32) st,.v (.i .u32) (0:UInt32),
  .v (.i .u64) q.1.1,.v (.i .u64) q.1.2.1,.v (.i .u64) q.1.2.2.1,.v (.i .u64) q.1.2.2.2,.v (.i .u64) q.2.1.1,.v (.i .u64) q.2.1.2.1,.v (.i .u64) q.2.1.2.2.1,.v (.i .u64) q.2.1.2.2.2,.v .b q.2.2]
def keyC(s k m:Bs)(d:W4)(o:UInt32)(st:Int)(q:P9):LV:=(keyS s k m d o st q).map enc1
theorem clo_c{w:World}{p b:Nat}{s k m:Bs}{d:W4}{o:UInt32}{st:Int}{q r:P9}(hpb:p≠b) (hp:w.heap[p]? = some (.cells [Value.pointer (some ⟨b,0,none⟩)].toArray 99 (0,0))) (hb:w.heap[b]? = some (.cells (keyC s k m d o st q).toArray 117 (0,0))) (hr:zaZ d=some r):Calls aD 132 #[.pointer (some ⟨p,0,none⟩)] w fun e w'=>e = .returned (.tuple #[])/\Fr [p,b] w w' /\
   w'.heap[p]? = some (.cells [Value.pointer (some ⟨b,0,none⟩)].toArray 99 (0,0))/\w'.heap[b]? = some (.cells (keyC s k m d o st r).toArray 117 (0,0)):=by
 have hk:zcC [.blk p [Value.pointer (some ⟨b,0,none⟩)] 99,.blk b (keyC s k m d o st q) 117]=[p,b]:=rfl
 have H:HS ⟨fun _=>none,[p,b],w⟩ (fun _=>none) w [.blk p [Value.pointer (some ⟨b,0,none⟩)] 99,.blk b (keyC s k m d o st q) 117]:=by
  refine⟨Fr.refl _ _,fun _ _ h=>(by cases h),fun _ _ _=>rfl,fun i r hi=>?_,fun i r x hi hx=>?_,fun i j r t x hi hj h1 h2=>?_⟩
  ·match i,hi with
   |0,hi=>cases hi;exact hp
   |1,hi=>cases hi;exact hb
  ·match i,hi with
   |0,hi=>cases hi;cases hx;exact⟨.inr (by simp),rfl⟩
   |1,hi=>cases hi;cases hx;exact⟨.inr (by simp),rfl⟩
  ·match i,j,hi,hj with
   |0,0,_,_=>rfl|1,1,_,_=>rfl|0,1,hi,hj=>cases hi;cases hj;cases h1;cases h2;exact absurd rfl hpb
   |1,0,hi,hj=>cases hi;cases hj;cases h1;cases h2;exact absurd rfl hpb
 have R:RelV ⟨fun _=>none,[p,b],w⟩ (fun _=>none) [.blk p,.blk b] [.blk p [Value.pointer (some ⟨b,0,none⟩)] 99,.blk b (keyC s k m d o st q) 117] ⟨[(0,.ptr 0 0)],[.blk 99 [.ptr 1 0],.blk 117 (keyS s k m d o st q)]⟩ (fun t=>[Value.pointer (some ⟨p,0,none⟩)].getD t undef) w:=by
  refine⟨H,rfl,rfl,fun i x hi=>?_,fun t=>?_⟩
  ·match i,hi with
   |0,hi=>cases hi;exact⟨_,_,rfl,rfl,p,_,rfl,rfl,.cons (show VB (fun _=>none) [.blk p,.blk b] (.ptr 1 0) (.pointer (some ⟨b,0,none⟩))from⟨b,rfl,_,rfl,fun b' h=>(by cases h;rfl)⟩) .nil⟩
   |1,hi=>cases hi;exact⟨_,_,rfl,rfl,b,_,rfl,rfl,zsX rfl⟩
  ·cases t with
   |zero=>exact VR.ofC (show VC (fun _=>none) [.blk p,.blk b] (.ptr 0 0) (.pointer (some ⟨p,0,none⟩))from⟨p,rfl,_,rfl,fun b' h=>(by cases h;rfl)⟩)|succ t=>trivial
 refine((zsD (tabs:=[])).ok (fun _=>none) w [Value.pointer (some ⟨p,0,none⟩)] [.blk p,.blk b] [.blk p [Value.pointer (some ⟨b,0,none⟩)] 99,.blk b (keyC s k m d o st q) 117]
  (s,k,m,d.1,d.2.1,d.2.2.1,d.2.2.2,o,st,(0:UInt32),q.1.1,q.1.2.1,q.1.2.2.1,q.1.2.2.2,q.2.1.1,q.2.1.2.1,q.2.1.2.2.1,q.2.1.2.2.2,q.2.2)
  (s,k,m,d.1,d.2.1,d.2.2.1,d.2.2.2,o,st,(0:UInt32),r.1.1,r.1.2.1,r.1.2.2.1,r.1.2.2.2,r.2.1.1,r.2.1.2.1,r.2.1.2.2.1,r.2.1.2.2.2,r.2.2) (fun p hp=>by cases hp) rfl R ?_).mono ?_
 ·have e:ziH s k m d.1 d.2.1 d.2.2.1 d.2.2.2 o st (0:UInt32) q.1.1 q.1.2.1 q.1.2.2.1 q.1.2.2.2 q.2.1.1 q.2.1.2.1 q.2.1.2.2.1 q.2.1.2.2.2 q.2.2=some (s,k,m,d.1,d.2.1,d.2.2.1,d.2.2.2,o,st,(0:UInt32),r.1.1,r.1.2.1,r.1.2.2.1,r.1.2.2.2,r.2.1.1,r.2.1.2.1,r.2.1.2.2.1,r.2.1.2.2.2,r.2.2):=by unfold ziH yuS;rw[show(d.1,d.2.1,d.2.2.1,d.2.2.2)=d from rfl,hr];rfl
  exact e
 rintro e w' ⟨v,rfl,S',E',L',σo,V',hout,hS,hP,R',_,_,hres⟩;have hσ:σo=⟨[],[.blk 99 [.ptr 1 0],.blk 117 (keyS s k m d o st r)]⟩:=by have:=hout (γ:=St) fun _ σ=>some σ;exact(osi this).symm
 subst hσ;have hres:v = .tuple #[]:=hres;subst hres;obtain⟨r0,e0,a1,a2,p',us0,rfl,rfl,a3⟩:=R'.obj 0 _ rfl;obtain⟨r1,e1,c1,c2,b',us1,rfl,rfl,c3⟩:=R'.obj 1 _ rfl;obtain⟨e2,g1,g2⟩:=hP 0 _ (by decide) rfl;obtain⟨e3,g3,g4⟩:=hP 1 _ (by decide) rfl;rw[a2]at g1;cases g1;rw[c2]at g3;cases g3;have hp':p'=p:=by
  rcases g2 with⟨_,_,_,h,_⟩|⟨_,h|h|⟨_,_,_,_,_,_,_,h,_⟩|⟨_,_,_,_,_,_,h,_⟩⟩
  ·cases h
  ·cases h
  ·cases h;rfl
  ·cases h
  ·cases h
 have hb':b'=b:=by
  rcases g4 with⟨_,_,_,h,_⟩|⟨_,h|h|⟨_,_,_,_,_,_,_,h,_⟩|⟨_,_,_,_,_,_,h,_⟩⟩
  ·cases h
  ·cases h
  ·cases h;rfl
  ·cases h
  ·cases h
 subst hp';subst hb';have k0:=R'.hs.own 0 _ (by rw[zaX];exact a1);have k1:=R'.hs.own 1 _ (by rw[zaX];exact c1);obtain⟨u0,rfl,h0⟩:=a3.one;obtain⟨bb,rfl,e4,h4,h5⟩:=(show VB S' E' (.ptr 1 0) u0 from h0);rw[c2]at h4;cases h4;cases h5 _ rfl;rw[zpK (l:=keyS s k m d o st r) rfl c3]at k1;exact⟨rfl,R'.hs.fr,k0,k1⟩
end Go.Proofs.YtmbcolbbekbccaaGreat.Am
namespace Go.Proofs.YtmbcolbbekbccaaGreat
open Go Go.RowKit
section
open Go Go.Conc.Locks Go.RowKit
open Am (keyC keyS P9 W4)
theorem zyZ(a:Addr)(x:Value)(u:FrameMode)(w:World)(hc:w.cell? a=some x)(hz:w.frozen? a=false):
  CallsD aD 170 #[.pointer (some a),.bool true] u w fun e u' w'=>u'=u/\(e = .returned (.tuple #[])/\w'=w.drew.setCell a (.int .u32 1)):=by
 have hc':w.drew.cell? a=some x:=by go_simp
 have hz':w.drew.frozen? a=false:=by go_simp
 have hst:=run_call_store (P:=aD) Tryz.func173 (by kernel_rfl) (by kernel_rfl) (by kernel_rfl) (by kernel_rfl) (k:=.u32) (y:=1) hc' hz'
 go_enter_d Tryz.func170,Tryz.ntmps170
 go_wp2
 go_region_calls
 all_goals (go_end0;exact⟨rfl,rfl⟩)
theorem zrN{w:World}{b i:Nat}{cs:LV}{T:TypeId}{v:Value}(hb:w.heap[b]? = some (.cells cs.toArray T (0,0)))(hv:cs[i]? = some v):w.cell? ⟨b,i,none⟩=some v:=by simp[World.cell?,hb,hv]
theorem zwY{w:World}{b i:Nat}{cs:LV}{T:TypeId}(hb:w.heap[b]? = some (.cells cs.toArray T (0,0))):w.frozen? ⟨b,i,none⟩=false:=by simp[World.frozen?,hb]
set_option maxRecDepth 100000 in
set_option maxHeartbeats 1600000 in
theorem slow_c{w:World}{p b:Nat}{s k m:Bs}{d:W4}{q r:P9}(hpb:p≠b) (hp:w.heap[p]? = some (.cells [Value.pointer (some ⟨b,0,none⟩)].toArray 99 (0,0))) (hb:w.heap[b]? = some (.cells (keyC s k m d 0 0 q).toArray 117 (0,0))) (hr:zaZ d=some r):Calls aD 156 #[.pointer (some ⟨b,7,none⟩),.func (.func 132) #[] #[.pointer (some ⟨p,0,none⟩)]] w fun e w'=>e = .returned (.tuple #[])/\Fr [p,b] w w' /\
   w'.heap[p]? = some (.cells [Value.pointer (some ⟨b,0,none⟩)].toArray 99 (0,0))/\w'.heap[b]? = some (.cells (keyC s k m d 1 0 r).toArray 117 (0,0)):=by
 have c7:w.cell? ⟨b,7,none⟩=some (.int .u32 0):=zrN hb rfl;have c8:w.cell? ⟨b,8,none⟩=some (.int .i32 0):=zrN hb rfl;have f8:w.frozen? ⟨b,8,none⟩=false:=zwY hb;have hb1:(w.setCell ⟨b,8,none⟩ (.int .i32 1)).heap[b]? = some (.cells (keyC s k m d 0 1 q).toArray 117 (0,0)):=zgS (v:=.int .i32 1) (i:=8) hb;have hp1:(w.setCell ⟨b,8,none⟩ (.int .i32 1)).heap[p]? = some (.cells [Value.pointer (some ⟨b,0,none⟩)].toArray 99 (0,0)):=(Below.heap_setCell _ _ _ _ (by simpa using hpb)).trans hp;have hl:=run_call_load (P:=aD) Tryz.func167 (by kernel_rfl) (by kernel_rfl) (by kernel_rfl) .u32 (by kernel_rfl) (w:=w.setCell ⟨b,8,none⟩ (.int .i32 1)) (a:=⟨b,7,none⟩) (x:=0) (zrN hb1 rfl);have hnot:∀(x:Bool) (w:World),(Op.unary .not (.bool x)).run aD w = .ok (.bool (!x)) w:=fun _ _=>rfl
 go_enter_defers Tryz.func156,Tryz.ntmps156
 go_wp2_with (first|(go_at_call 168;refine(Go.MuLone.lock_free muLib ⟨b,8,none⟩ _ c8 f8).mono ?_;rintro e w' ⟨rfl,rfl⟩)|(go_at_call 155;go_in)|(go_at_call 132;refine(Am.clo_c hpb hp1 hb1 hr).mono ?_;rintro e w2 ⟨rfl,hF,hp2,hb2⟩))
 have hb3:(w2.drew.setCell ⟨b,7,none⟩ (.int .u32 1)).heap[b]? = some (.cells (keyC s k m d 1 1 r).toArray 117 (0,0)):=zgS (w:=w2.drew) (v:=.int .u32 1) (i:=7) hb2;have hp3:(w2.drew.setCell ⟨b,7,none⟩ (.int .u32 1)).heap[p]? = some (.cells [Value.pointer (some ⟨b,0,none⟩)].toArray 99 (0,0)):=(Below.heap_setCell _ _ _ _ (by simpa using hpb)).trans hp2;refine leaves_cons (f:=170) (args:=#[.pointer (some ⟨b,7,none⟩),.bool true]) (by simp) (by simp[go_sem]) ?_;refine(zyZ ⟨b,7,none⟩ (.int .u32 0) .returning _ (zrN hb2 rfl) (zwY hb2)).mono ?_;rintro e u' w'' ⟨rfl,rfl,rfl⟩;refine leaves_cons (f:=169) (args:=#[.pointer (some ⟨b,8,none⟩)]) (by simp[settle]) (by simp[go_sem]) ?_;refine(Go.MuLone.unlock_deferred muLib ⟨b,8,none⟩ _ _ (zrN hb3 rfl) (zwY hb3)).mono ?_;rintro e u' w'' ⟨rfl,rfl,rfl⟩;have hb4:((w2.drew.setCell ⟨b,7,none⟩ (.int .u32 1)).setCell ⟨b,8,none⟩ (.int .i32 0)).heap[b]? = some (.cells (keyC s k m d 1 0 r).toArray 117 (0,0)):=zgS (v:=.int .i32 0) (i:=8) hb3;have hp4:((w2.drew.setCell ⟨b,7,none⟩ (.int .u32 1)).setCell ⟨b,8,none⟩ (.int .i32 0)).heap[p]? = some (.cells [Value.pointer (some ⟨b,0,none⟩)].toArray 99 (0,0)):=(Below.heap_setCell _ _ _ _ (by simpa using hpb)).trans hp3;have hset:∀{X:List Nat} {w w':World} {i:Nat} {v:Value},Fr [p,b] w w'->Fr [p,b] w (w'.setCell ⟨b,i,none⟩ v):=fun {X w w' i v} h=>
  ⟨h.os,h.tape,h.output,by rw[World.size_setCell];exact h.size,fun j hj hx=>(Below.heap_setCell _ _ _ _ (by simp at hx ⊢;exact hx.2)).trans (h.block j hj hx)⟩
 have F1:Fr [p,b] w (w.setCell ⟨b,8,none⟩ (.int .i32 1)):=hset (X:=[]) (Fr.refl _ _);have F2:Fr [p,b] w w2:=⟨hF.os.trans F1.os,hF.tape.trans F1.tape,hF.output.trans F1.output,Nat.le_trans F1.size hF.size,fun j hj hx=>(hF.block j (Nat.lt_of_lt_of_le hj F1.size) hx).trans (F1.block j hj hx)⟩;have F3:Fr [p,b] w w2.drew:=⟨F2.os,F2.tape,F2.output,F2.size,F2.block⟩;have F4:Fr [p,b] w ((w2.drew.setCell ⟨b,7,none⟩ (.int .u32 1)).setCell ⟨b,8,none⟩ (.int .i32 0)):=hset (X:=[]) (hset (X:=[]) F3);simp[Leaves,settle,results,Tryz.results156];exact⟨F4,hp4,hb4⟩
set_option maxRecDepth 100000 in
set_option maxHeartbeats 1600000 in
theorem ywJ{w:World}{p b:Nat}{s k m:Bs}{d:W4}{q r:P9}(hpb:p≠b) (hp:w.heap[p]? = some (.cells [Value.pointer (some ⟨b,0,none⟩)].toArray 99 (0,0))) (hb:w.heap[b]? = some (.cells (keyC s k m d 0 0 q).toArray 117 (0,0))) (hr:zaZ d=some r):Calls aD 131 #[.pointer (some ⟨b,7,none⟩),.func (.func 132) #[] #[.pointer (some ⟨p,0,none⟩)]] w fun e w'=>e = .returned (.tuple #[])/\Fr [p,b] w w' /\
   w'.heap[p]? = some (.cells [Value.pointer (some ⟨b,0,none⟩)].toArray 99 (0,0))/\w'.heap[b]? = some (.cells (keyC s k m d 1 0 r).toArray 117 (0,0)):=by
 have hl:=run_call_load (P:=aD) Tryz.func167 (by kernel_rfl) (by kernel_rfl) (by kernel_rfl) .u32 (by kernel_rfl) (w:=w) (a:=⟨b,7,none⟩) (x:=0) (zrN hb rfl);have hnot:∀(x:Bool) (w:World),(Op.unary .not (.bool x)).run aD w = .ok (.bool (!x)) w:=fun _ _=>rfl
 go_enter Tryz.func131,Tryz.ntmps131
 go_wp2_with (first|(go_at_call 156;refine(slow_c hpb hp hb hr).mono ?_;rintro e w2 ⟨rfl,hF,hp2,hb2⟩)|(go_at_call 155;go_in))
 go_end0
 exact⟨rfl,hF,hp2,hb2⟩
theorem do_done(a:Addr)(d:Int)(hd:¬d=0)(fv:Value)(w:World)(h0:w.cell? a=some (.int .u32 d)):Calls aD 131 #[.pointer (some a),fv] w fun e w'=>e = .returned (.tuple #[])/\w'=w:=by
 have hl:=run_call_load (P:=aD) Tryz.func167 (by kernel_rfl) (by kernel_rfl) (by kernel_rfl) .u32 (by kernel_rfl) h0;have hnot:∀(x:Bool) (w:World),(Op.unary .not (.bool x)).run aD w = .ok (.bool (!x)) w:=fun _ _=>rfl;have hd':(d != 0)=true:=by simp[hd]
 go_enter Tryz.func131,Tryz.ntmps131
 go_wp2
 go_end0
 exact⟨rfl,rfl⟩
end
end Go.Proofs.YtmbcolbbekbccaaGreat
namespace Go.Proofs.YtmbcolbbekbccaaGreat.Am
open Go Go.RowKit
section
variable {G:List (Nat×Obj)}
abbrev K19:Type:=Bs×Bs×Bs×UInt64×UInt64×UInt64×UInt64×UInt32×Int×UInt32×UInt64×UInt64×UInt64×UInt64×UInt64×UInt64×UInt64×UInt64×Bool
def k19(s k m:Bs)(d:W4)(o:UInt32)(st:Int)(q:P9):K19:=
 (s,k,m,d.1,d.2.1,d.2.2.1,d.2.2.2,o,st,(0:UInt32),q.1.1,q.1.2.1,q.1.2.2.1,q.1.2.2.2,q.2.1.1,q.2.1.2.1,q.2.1.2.2.1,q.2.1.2.2.2,q.2.2)
abbrev u64h:Sh:=.h (.i .u64)
abbrev keyB:OSh:=.blk 117 [.h .s,.h .s,.h .s,u64h,u64h,u64h,u64h,.h (.i .u32),.h (.i .i32),.h (.i .u32),u64h,u64h,u64h,u64h,u64h,u64h,u64h,u64h,.h .b]
def doP(x:K19):Option K19:=
 bif x.2.2.2.2.2.2.2.2.2.1==(0:UInt32)&&x.2.2.2.2.2.2.2.2.1==(0:Int) then
  bif x.2.2.2.2.2.2.2.1==(0:UInt32) then
   aA (zaZ (x.2.2.2.1,x.2.2.2.2.1,x.2.2.2.2.2.1,x.2.2.2.2.2.2.1)) fun r=>some (k19 x.1 x.2.1 x.2.2.1 (x.2.2.2.1,x.2.2.2.2.1,x.2.2.2.2.2.1,x.2.2.2.2.2.2.1) 1 0 r)
  else some x
 else none
def doP19(v0:Bs)(v1:Bs)(v2:Bs)(v3:UInt64)(v4:UInt64)(v5:UInt64)(v6:UInt64)(v7:UInt32)(v8:Int)(v9:UInt32)(v10:UInt64)(v11:UInt64)(v12:UInt64)(v13:UInt64)(v14:UInt64)(v15:UInt64)(v16:UInt64)(v17:UInt64)(v18:Bool):Option K19:=doP (v0,v1,v2,v3,v4,v5,v6,v7,v8,v9,v10,v11,v12,v13,v14,v15,v16,v17,v18)
def do_sc:SC:=⟨⟨[(0,.ptr 0 7),(1,.fn 132 [] [.ptr 1 0])],[keyB,.blk 99 [.ptr 0 0]]⟩,0,[(none,⟨[],[keyB,.blk 99 [.ptr 0 0]]⟩)],fun x=>doP x⟩
theorem do_sk:SCok aD G 131 do_sc:=by
 refine⟨isFn Tryz.func131 (by kernel_rfl) (by kernel_rfl),fun S0 w0 us E0 L0 (x:K19) (y:K19) _ hul R hy=>?_⟩;obtain⟨s,k,m,d1,d2,d3,d4,o,st,z,q1,q2,q3,q4,q5,q6,q7,q8,q9⟩:=x;have hul:us.length=2:=hul;obtain⟨u,f,rfl⟩:∃u f,us=[u,f]:=by
  match us,hul with
  |[u,f],_=>exact⟨u,f,rfl⟩
 have hy:doP (s,k,m,d1,d2,d3,d4,o,st,z,q1,q2,q3,q4,q5,q6,q7,q8,q9)=some y:=hy;unfold doP at hy;obtain⟨hz,hy⟩:=zaJ hy;simp only[aK,beq_iff_eq]at hz;obtain⟨rfl,rfl⟩:=hz;let d:W4:=(d1,d2,d3,d4);let q:P9:=((q1,q2,q3,q4),(q5,q6,q7,q8),q9);have R:RelV ⟨S0,zcC L0,w0⟩ S0 E0 L0 ⟨[(0,.ptr 0 7),(1,.fn 132 [] [.ptr 1 0])],[.blk 117 (keyS s k m d o 0 q),.blk 99 [.ptr 0 0]]⟩ (fun t=>[u,f].getD t undef) w0:=R;obtain⟨r0,e0,a1,a2,p,us0,rfl,rfl,a3⟩:=R.obj 1 _ rfl;obtain⟨r1,e1,c1,c2,b,us1,rfl,rfl,c3⟩:=R.obj 0 _ rfl;have hL:L0=[.blk b us1 117,.blk p us0 99]:=by
  have h2:L0.length=2:=R.lL
  match L0,h2,a1,c1 with
  |[x0,x1],_,a1,c1=>cases a1;cases c1;rfl
 have hE:E0=[.blk b,.blk p]:=by
  have h2:E0.length=2:=R.lE
  match E0,h2,a2,c2 with
  |[x0,x1],_,a2,c2=>cases a2;cases c2;rfl
 subst hL;subst hE;obtain⟨u0,rfl,h0⟩:=a3.one;obtain⟨bb,rfl,e4,h4,h5⟩:=(show VB S0 [.blk b,.blk p] (.ptr 0 0) u0 from h0);cases h4;cases h5 _ rfl;have hu1:us1=keyC s k m d o 0 q:=zpK (l:=keyS s k m d o 0 q) rfl c3;subst hu1;have hp:w0.heap[p]? = some (.cells [Value.pointer (some ⟨b,0,none⟩)].toArray 99 (0,0)):=R.hs.own 1 _ rfl;have hb:w0.heap[b]? = some (.cells (keyC s k m d o 0 q).toArray 117 (0,0)):=R.hs.own 0 _ rfl;have hpb:p≠b:=fun e=>by subst e;have:=R.hs.inj 0 1 _ _ p rfl rfl rfl rfl;cases this
 obtain⟨bu,hu,e5,g1,g2⟩:=(show VB S0 [.blk b,.blk p] (.ptr 0 7) u from R.sl 0);cases g1;cases g2 _ rfl;subst hu;obtain⟨fs,gs,hf,f1,f2⟩:=(show VC S0 [.blk b,.blk p] (.fn 132 [] [.ptr 1 0]) f from R.sl 1);cases f1;obtain⟨g0,rfl,f3⟩:=f2.one;obtain⟨bg,rfl,e6,g3,g4⟩:=(show VB S0 [.blk b,.blk p] (.ptr 1 0) g0 from f3);cases g3;cases g4 _ rfl;subst hf;have fin:∀(o':UInt32) (q':P9) (w':World),Fr [p,b] w0 w'->w'.heap[p]? = some (.cells [Value.pointer (some ⟨b,0,none⟩)].toArray 99 (0,0))->w'.heap[b]? = some (.cells (keyC s k m d o' 0 q').toArray 117 (0,0)) ->
   RelV ⟨S0,[b,p],w0⟩ S0 [.blk b,.blk p] [.blk b (keyC s k m d o' 0 q') 117,.blk p [Value.pointer (some ⟨b,0,none⟩)] 99] ⟨[],[.blk 117 (keyS s k m d o' 0 q'),.blk 99 [.ptr 0 0]]⟩ (fun _=>undef) w':=fun o' q' w' hF hp' hb'=>by
  have keyp:∀i r x,lkR [Res.blk b (keyC s k m d o' 0 q') 117,Res.blk p [Value.pointer (some ⟨b,0,none⟩)] 99] i=some r->r.has x->(x=p∨x=b):=fun i r x hi hx=>by
   match i,hi with
   |0,hi=>cases hi;cases hx;exact .inr rfl
   |1,hi=>cases hi;cases hx;exact .inl rfl
  have hp0:=(R.hs.old 1 _ p rfl rfl).2;have hb0:=(R.hs.old 0 _ b rfl rfl).2;have hF:Fr [b,p] w0 w':=⟨hF.os,hF.tape,hF.output,hF.size,fun j hj hx=>hF.block j hj (by simp at hx ⊢;exact⟨hx.2,hx.1⟩)⟩;refine⟨⟨hF,fun x ob h=>?_,fun _ _ _=>rfl,fun i r hi=>?_,fun i r x hi hx=>?_,fun i j r t x hi hj h1 h2=>?_⟩,rfl,rfl,fun i ob hi=>?_,fun t=>trivial⟩
  ·have hx:x∉[b,p]:=fun hx=>by
    rcases aT.1 hx with rfl|hx
    ·rw[hb0]at h;cases h
    ·rw[List.mem_singleton.1 hx,hp0]at h;cases h
   rw[hF.block x (R.hs.sub.lt h) hx];exact R.hs.sub x ob h
  ·match i,hi with
   |0,hi=>cases hi;exact hb'
   |1,hi=>cases hi;exact hp'
  ·rcases keyp i r x hi hx with rfl|rfl
   ·exact⟨.inr (by simp),hp0⟩
   ·exact⟨.inr (by simp),hb0⟩
  ·match i,j,hi,hj with
   |0,0,_,_=>rfl|1,1,_,_=>rfl|0,1,hi,hj=>cases hi;cases hj;cases h1;cases h2;exact absurd rfl hpb
   |1,0,hi,hj=>cases hi;cases hj;cases h1;cases h2;exact absurd rfl hpb
  ·match i,hi with
   |0,hi=>cases hi;exact⟨_,_,rfl,rfl,b,_,rfl,rfl,zsX rfl⟩
   |1,hi=>cases hi;exact⟨_,_,rfl,rfl,p,_,rfl,rfl,.cons (show VB S0 [.blk b,.blk p] (.ptr 0 0) (.pointer (some ⟨b,0,none⟩))from⟨b,rfl,_,rfl,fun b' h=>(by cases h;rfl)⟩) .nil⟩
 have ver:∀(o':UInt32) (q':P9),Ver0 (⟨[],[.blk 117 (keyS s k m d o' 0 q'),.blk 99 [.ptr 0 0]]⟩:St).hp:=fun o' q' i ver e' T' xs' hi=>by
  match i,hi with
  |0,hi=>cases hi
  |1,hi=>cases hi
 by_cases ho:o=0
 ·subst ho;rw[zoI (by rfl)]at hy;obtain⟨r,hr,hy⟩:=bnd hy;cases hy;refine(ywJ (s:=s) (k:=k) (m:=m) (d:=d) (q:=q) hpb hp hb hr).mono ?_;rintro e w' ⟨rfl,hF,hp',hb'⟩;exact⟨_,rfl,S0,[.blk b,.blk p],_,_,fun _=>undef,fun k=>rfl,Mem.le_refl _,Pin.refl _ _,fin 1 r w' hF hp' hb',ver 1 r,aJ _,rfl⟩
 ·rw[zpA (by rw[beq_eq_false_iff_ne];exact ho)]at hy;cases hy;refine(do_done ⟨b,7,none⟩ (o.toNat:Int) (fun h=>ho (UInt32.toNat.inj (by simpa using h))) _ w0 (zrN hb rfl)).mono ?_;rintro e w' ⟨rfl,rfl⟩;exact⟨_,rfl,S0,[.blk b,.blk p],_,_,fun _=>undef,fun k=>rfl,Mem.le_refl _,Pin.refl _ _,fin o q w' (Fr.refl _ _) hp hb,ver o q,aJ _,rfl⟩
end
def τWkP:TE:=[(26,⟨.st [(24,0),(24,4),(4,8)],9,[.v (.i .u64) (show UInt64 from 0),.v (.i .u64) (show UInt64 from 0),.v (.i .u64) (show UInt64 from 0),.v (.i .u64) (show UInt64 from 0),.v (.i .u64) (show UInt64 from 0),.v (.i .u64) (show UInt64 from 0),.v (.i .u64) (show UInt64 from 0),.v (.i .u64) (show UInt64 from 0),.v .b (show Bool from false)],(.pr (.pr (.i .u64) (.pr (.i .u64) (.pr (.i .u64) (.i .u64)))) (.pr (.pr (.i .u64) (.pr (.i .u64) (.pr (.i .u64) (.i .u64)))) .b)),72⟩),
 (99,⟨.pt 117,1,[.nilp],.un,8⟩),
 (115,⟨.st [(105,0),(109,0),(113,1)],3,[.v (.i .u32) (show UInt32 from 0),.v (.i .i32) (show Int from 0),.v (.i .u32) (show UInt32 from 0)],(.pr .un (.pr (.pr .un (.i .u32)) (.pr .un (.pr (.i .i32) (.i .u32))))),12⟩),
 (117,⟨.st [(9,0),(9,1),(9,2),(24,3),(115,7),(26,10)],19,[.v .s (show Bs from []),.v .s (show Bs from []),.v .s (show Bs from []),.v (.i .u64) (show UInt64 from 0),.v (.i .u64) (show UInt64 from 0),.v (.i .u64) (show UInt64 from 0),.v (.i .u64) (show UInt64 from 0),.v (.i .u32) (show UInt32 from 0),.v (.i .i32) (show Int from 0),.v (.i .u32) (show UInt32 from 0),.v (.i .u64) (show UInt64 from 0),.v (.i .u64) (show UInt64 from 0),.v (.i .u64) (show UInt64 from 0),.v (.i .u64) (show UInt64 from 0),.v (.i .u64) (show UInt64 from 0),.v (.i .u64) (show UInt64 from 0),.v (.i .u64) (show UInt64 from 0),.v (.i .u64) (show UInt64 from 0),.v .b (show Bool from false)],(.pr .s (.pr .s (.pr .s (.pr (.pr (.i .u64) (.pr (.i .u64) (.pr (.i .u64) (.i .u64)))) (.pr (.pr .un (.pr (.pr .un (.i .u32)) (.pr .un (.pr (.i .i32) (.i .u32))))) (.pr (.pr (.i .u64) (.pr (.i .u64) (.pr (.i .u64) (.i .u64)))) (.pr (.pr (.i .u64) (.pr (.i .u64) (.pr (.i .u64) (.i .u64)))) .b))))))),168⟩)]
theorem τ_okWkP:TEok aD τWkP:=ypG (by kernel_rfl) (by kernel_rfl)
theorem mixWkP:Tryz.prog.follows .mixedOrders=true:=by kernel_rfl
abbrev KWkP1:Type:=Qp
abbrev YWkP1:Ty:=.pr (.pr (.i .u64) (.pr (.i .u64) (.pr (.i .u64) (.i .u64)))) (.pr (.pr (.i .u64) (.pr (.i .u64) (.pr (.i .u64) (.i .u64)))) .b)
section
variable {tabs:List (Nat×Obj)}[ycO tabs]
def zvH(v0:Bs)(v1:Bs)(v2:Bs)(v3:UInt64)(v4:UInt64)(v5:UInt64)(v6:UInt64)(v7:UInt32)(v8:Int)(v9:UInt32)(v10:UInt64)(v11:UInt64)(v12:UInt64)(v13:UInt64)(v14:UInt64)(v15:UInt64)(v16:UInt64)(v17:UInt64)(v18:Bool):Option ((KWkP1×Bs×Bs×Bs×UInt64×UInt64×UInt64×UInt64×UInt32×Int×UInt32×UInt64×UInt64×UInt64×UInt64×UInt64×UInt64×UInt64×UInt64×Bool)):=
 (doP19 v0 v1 v2 v3 v4 v5 v6 v7 v8 v9 v10 v11 v12 v13 v14 v15 v16 v17 v18).bind fun v19=>some (((v19.2.2.2.2.2.2.2.2.2.2.1,v19.2.2.2.2.2.2.2.2.2.2.2.1,v19.2.2.2.2.2.2.2.2.2.2.2.2.1,v19.2.2.2.2.2.2.2.2.2.2.2.2.2.1),(v19.2.2.2.2.2.2.2.2.2.2.2.2.2.2.1,v19.2.2.2.2.2.2.2.2.2.2.2.2.2.2.2.1,v19.2.2.2.2.2.2.2.2.2.2.2.2.2.2.2.2.1,v19.2.2.2.2.2.2.2.2.2.2.2.2.2.2.2.2.2.1),v19.2.2.2.2.2.2.2.2.2.2.2.2.2.2.2.2.2.2),v19)
def zmZ:SC:=⟨⟨[(0,(.ptr 0 0))],[.blk 117 [hS,hS,hS,(.h (.i .u64)),(.h (.i .u64)),(.h (.i .u64)),(.h (.i .u64)),(.h (.i .u32)),(.h (.i .i32)),(.h (.i .u32)),(.h (.i .u64)),(.h (.i .u64)),(.h (.i .u64)),(.h (.i .u64)),(.h (.i .u64)),(.h (.i .u64)),(.h (.i .u64)),(.h (.i .u64)),hB]]⟩,1,[(none,⟨[(0,(.h YWkP1))],[.blk 117 [hS,hS,hS,(.h (.i .u64)),(.h (.i .u64)),(.h (.i .u64)),(.h (.i .u64)),(.h (.i .u32)),(.h (.i .i32)),(.h (.i .u32)),(.h (.i .u64)),(.h (.i .u64)),(.h (.i .u64)),(.h (.i .u64)),(.h (.i .u64)),(.h (.i .u64)),(.h (.i .u64)),(.h (.i .u64)),hB]]⟩)],fun x=>zvH x.1 x.2.1 x.2.2.1 x.2.2.2.1 x.2.2.2.2.1 x.2.2.2.2.2.1 x.2.2.2.2.2.2.1 x.2.2.2.2.2.2.2.1 x.2.2.2.2.2.2.2.2.1 x.2.2.2.2.2.2.2.2.2.1 x.2.2.2.2.2.2.2.2.2.2.1 x.2.2.2.2.2.2.2.2.2.2.2.1 x.2.2.2.2.2.2.2.2.2.2.2.2.1 x.2.2.2.2.2.2.2.2.2.2.2.2.2.1 x.2.2.2.2.2.2.2.2.2.2.2.2.2.2.1 x.2.2.2.2.2.2.2.2.2.2.2.2.2.2.2.1 x.2.2.2.2.2.2.2.2.2.2.2.2.2.2.2.2.1 x.2.2.2.2.2.2.2.2.2.2.2.2.2.2.2.2.2.1 x.2.2.2.2.2.2.2.2.2.2.2.2.2.2.2.2.2.2⟩
theorem zuG:SCok aD tabs 82 zmZ:=wit (G:=tabs)<|fn_sc (η:=[]) (Γ:=⟨[],[(131,do_sc)],false,[]⟩) mixWkP τ_okWkP (ctok trivial ⟨do_sk,trivial⟩) Tryz.func82 (isFn Tryz.func82) (by kernel_rfl) (by kernel_rfl) (by kernel_rfl)
end
section
def mem1(S:Mem)(w:World)(q:Option Nat):Mem:=fun b=>match S b with
 |some o=>some o|none=>bif decide (q=some b)then nj w.heap[b]? else none
def wo1(S:Mem)(q:Option Nat):Mem:=fun b=>bif decide (q=some b)then none else S b
section
variable {S:Mem}{w:World}{q:Option Nat}{b:Nat}
theorem le1:Mem.le S (mem1 S w q):=fun b o h=>by unfold mem1;rw[h]
theorem sub1(h:Sub S w):Sub (mem1 S w q) w:=fun b o e=>by
 unfold mem1 at e;split at e
 ·rename_i h1;cases e;exact h _ _ h1
 ·cases hq:decide (q=some b) with
  |true=>rw[hq]at e;exact zxI e|false=>rw[hq]at e;cases e
theorem ypQ{o:Obj}(h:S b=none)(hw:w.heap[b]? = some o)(hj:isJ o=false):mem1 S w (some b) b=some o:=by unfold mem1;rw[h,zA rfl,hw];exact yuA hj
theorem yoC(h:q≠some b):mem1 S w q b=S b:=by
 unfold mem1;cases hb:S b with
 |some o=>rfl|none=>rw[decide_eq_false h];rfl
theorem xdB:Mem.le (wo1 S q) S:=fun b o e=>by
 unfold wo1 at e;cases h:decide (q=some b) with
 |true=>rw[h]at e;cases e
 |false=>rw[h]at e;exact e
theorem zyX(h:q≠some b):wo1 S q b=S b:=by unfold wo1;rw[decide_eq_false h];rfl
theorem yyH(h:S b=none):wo1 S q b=none:=by
 unfold wo1;cases decide (q=some b) with
 |true=>rfl|false=>exact h
theorem pm_wo{kT:TypeId}{kt kg:Ty}(ht:zqV kt=false)(hg:zqV kg=false)(hq:∀b,q=some b->∃ds T fz,S b=some (.cells ds T fz)):∀{xs:List (den (.pm kT kt kg))} {cs:LV},@RL (den (.pm kT kt kg)) (rpD (.pm kT kt kg)) S cs xs->@RL (den (.pm kT kt kg)) (rpD (.pm kT kt kg)) (wo1 S q) cs xs
 |[],_,h=>h|_::_,_,⟨c1,c2,e,⟨u,b,p,a,c,T,e1,e2,k1,k2,k3,k4,k5⟩,h2⟩=>by
  have hne:q≠some b:=fun hb=>by obtain⟨ds,T',fz,k6⟩:=hq b hb;rw[k1]at k6;cases k6
  exact⟨c1,c2,e,⟨u,b,p,a,c,T,e1,e2,(zyX hne).trans k1,k2,zqL kt ht k3,zqL kg hg k4,k5⟩,pm_wo ht hg hq h2⟩
end
variable {P:Program}{G:List (Nat×Obj)}
theorem ynA{f:FuncId}{kT:TypeId}{kt kg:Ty}{T:TypeId}(ht:zqV kt=false)(hg:zqV kg=false)(h:SCok P G f ⟨⟨[(0,.h (.sl (.pm kT kt kg)))],[]⟩,1,[(none,⟨[(0,.own 0)],[.osl (.pm kT kt kg) T]⟩)],fun(xs:List (den (.pm kT kt kg)))=>app [] xs⟩):
  SCok P G f ⟨⟨[(0,.own 0)],[.osl (.pm kT kt kg) T]⟩,1,[(none,⟨[(0,.own 1)],[.osl (.pm kT kt kg) T,.osl (.pm kT kt kg) T]⟩)],fun(xs:List (den (.pm kT kt kg)))=>aA (app [] xs) fun r=>some (xs,r)⟩:=by
 obtain⟨e,he⟩:∃e:Ty,e = .pm kT kt kg:=⟨_,rfl⟩;have hz:tsz (.pm kT kt kg)=1:=rfl;obtain⟨q,hq⟩:=zdI (.pm kT kt kg);have e0:∀y:den (.sl (.pm kT kt kg)),zdM [.osl (.pm kT kt kg) T] [.v (.sl (.pm kT kt kg)) y]=[.osl 0 (.pm kT kt kg) T y]:=fun y=>by rw[zdM,hq];rfl
 refine⟨h.fn,fun S0 w0 us E0 L0 (xs:List (den (.pm kT kt kg))) (d:List (den (.pm kT kt kg))×List (den (.pm kT kt kg))) hG hul R hy=>?_⟩;have hy:(aA (app [] xs) fun r=>some (xs,r))=some d:=hy;obtain⟨ys,hys,hd⟩:=bnd hy;cases hd;have hyx:ys=xs:=ybR hys;have hul:us.length=1:=hul;obtain⟨u,rfl⟩:∃u,us=[u]:=by
  match us,hul with
  |[u],_=>exact⟨u,rfl⟩
 have hput:(Shp.put (⟨[(0,.own 0)],[.osl (.pm kT kt kg) T]⟩:Shp) xs)=⟨[(0,.own 0 0)],[.osl 0 (.pm kT kt kg) T xs]⟩:=congrArg (fun hp=>(⟨[(0,.own 0 0)],hp⟩:St)) (e0 xs);have R:RelV ⟨S0,zcC L0,w0⟩ S0 E0 L0 ⟨[(0,.own 0 0)],[.osl 0 (.pm kT kt kg) T xs]⟩ (fun t=>[u].getD t undef) w0:=by rw[<-hput];exact R
 obtain⟨r0,ee0,g1,g2,v,v',cs,rs,rfl,rfl,hrl,hsm⟩:=R.obj 0 _ rfl;have hL:L0.length=1:=R.lL;have hE:E0.length=1:=R.lE;obtain⟨h7,e1,h8,h9⟩:=(show VB S0 E0 (.own 0 0) u from R.sl 0);rw[g2]at h8;cases h8;have hu:u=v':=(h9 _ _ _ rfl).2 rfl;subst hu;have hk:lkR L0 0=some (.osl v xs.length 1 cs rs T):=by rw[zaX];exact g1
 have hS1:SlS (mem1 S0 w0 (vkey v)) v xs.length 1 cs:=by
  rcases R.hs.own 0 _ hk with⟨h1,h2,h3,_⟩|⟨b,c',fz,rfl,h1,h2,h3,h4,_⟩
  ·exact .inl ⟨⟨_,h1⟩,h2,h3⟩
  ·refine .inr ⟨b,0,c',cs++rs,T,fz,rfl,h1,ypQ (R.hs.old 0 _ b hk rfl).2 h4 rfl,by simp;omega,?_⟩;rw[zaL,List.drop_zero,<-h2,List.take_left'];rfl
 have hrd:@RdS (den (.pm kT kt kg)) (rpD (.pm kT kt kg)) (mem1 S0 w0 (vkey v)) u xs:=hsm.rd le1 ⟨cs,hS1,@RL.mono (den (.pm kT kt kg)) (rpD (.pm kT kt kg)) _ _ _ _ hrl le1⟩;refine(h.ok (mem1 S0 w0 (vkey v)) w0 [u] [] [] xs ys (fun p hp=>le1 _ _ (hG p hp)) rfl ⟨HS.start (sub1 R.hs.sub),rfl,rfl,fun i o ho=>by simp[Shp.put,zdM]at ho,fun t=>?_⟩ hys).mono ?_
 ·cases t with
  |zero=>exact(⟨u,rfl,hrd⟩:VB (mem1 S0 w0 (vkey v)) [] (.v (.sl (.pm kT kt kg)) xs) u)|succ t=>trivial
 rintro e' w' ⟨v1,hv1,S',E',L',σo,V',hout,hS,_,R2,_,_,hres⟩;have hσ:σo=⟨[(0,.own 0 0)],[.osl 0 (.pm kT kt kg) T ys]⟩:=by have h1:=hout (γ:=St) fun _ σ=>some σ;have h2:(Shp.put (⟨[(0,.own 0)],[.osl (.pm kT kt kg) T]⟩:Shp) ys)=⟨[(0,.own 0 0)],[.osl 0 (.pm kT kt kg) T ys]⟩:=congrArg (fun hp=>(⟨[(0,.own 0 0)],hp⟩:St)) (e0 ys);have h3:(some ((Shp.put (⟨[(0,.own 0)],[.osl (.pm kT kt kg) T]⟩:Shp) ys).app []):Option St)=some σo:=h1;rw[h2]at h3;exact(osi h3).symm
 subst hσ;obtain⟨r2,ee2,k1,k2,vv,vv',cs2,rs2,rfl,rfl,hrl2,hsm2⟩:=R2.obj 0 _ rfl;obtain⟨k3,e2,k4,k5⟩:=(show VB S' E' (.own 0 0) (V' 0)from R2.sl 0);rw[k2]at k4;cases k4;have hV:V' 0=vv':=(k5 _ _ _ rfl).2 rfl;have hk2:lkR L' 0=some (.osl vv ys.length 1 cs2 rs2 T):=by rw[zaX];exact k1
 have hx:Ext w0 w':=R2.hs.toExt;have hown:∀b,vkey v=some b->S0 b=none:=fun b hb=>(R.hs.old 0 _ b hk hb).2
 have hle:Mem.le S0 (wo1 S' (vkey v)):=fun b o ho=>by
  have hne:vkey v≠some b:=fun hb=>by rw[hown b hb]at ho;cases ho
  rw[zyX hne];exact hS _ _ (le1 _ _ ho)
 have hrl3:@RL (den (.pm kT kt kg)) (rpD (.pm kT kt kg)) (wo1 S' (vkey v)) cs2 ys:=by
  refine pm_wo ht hg (fun b hb=>?_) hrl2;rcases R.hs.own 0 _ hk with⟨h1,_⟩|⟨b',c',fz,rfl,h1,h2,h3,h4,_⟩
  ·rw[h1]at hb;cases hb
  ·cases hb;exact⟨_,T,fz,hS _ _ (ypQ (hown _ rfl) h4 rfl)⟩
 have hnew:∀b,(Res.osl vv ys.length 1 cs2 rs2 T).has b->w0.heap.size<=b:=fun b hb=>by
  rcases(R2.hs.old 0 _ b hk2 hb).1 with h1|h1
  ·exact h1
  ·cases h1
 have H:HS ⟨S0,zcC L0,w0⟩ (wo1 S' (vkey v)) w' (.osl vv ys.length 1 cs2 rs2 T::L0):=by
  refine⟨R.hs.fr.more hx,fun b o ho=>R2.hs.sub b o (xdB b o ho),fun b hb hX=>?_,fun k r hkr=>?_,fun k r b hkr hb=>?_,fun i j r s b hi hj h1 h2=>?_⟩
  ·have hne:vkey v≠some b:=fun e=>hX (zcV.2 ⟨0,_,hk,e⟩) (hown b e);exact(zyX hne).trans ((R2.hs.keep b hb (fun h=>nomatch h)).trans (yoC hne))
  ·cases k with
   |zero=>cases hkr;exact R2.hs.own 0 _ hk2
   |succ k=>exact(R.hs.ext hx).own k r hkr
  ·cases k with
   |zero=>cases hkr;exact⟨.inl (hnew b hb),yyH (R2.hs.old 0 _ b hk2 hb).2⟩
   |succ k=>
    have hkr:lkR L0 k=some r:=hkr;refine⟨(R.hs.old k r b hkr hb).1,?_⟩;by_cases hq:vkey v=some b
    ·unfold wo1;rw[zA hq];rfl
    ·rw[zyX hq,R2.hs.keep b (R.hs.res_lt hkr hb) (fun h=>nomatch h)];show mem1 S0 w0 (vkey v) b=none;rw[yoC hq];exact(R.hs.old k r b hkr hb).2
  ·cases i with
   |zero=>
    cases j with
    |zero=>rfl|succ j=>cases hi;have:=hnew b h1;have:=R.hs.res_lt (show lkR L0 j=some s from hj) h2;omega
   |succ i=>
    cases j with
    |zero=>cases hj;have:=hnew b h2;have:=R.hs.res_lt (show lkR L0 i=some r from hi) h1;omega
    |succ j=>rw[R.hs.inj i j r s b hi hj h1 h2]
 refine⟨v1,hv1,wo1 S' (vkey v),E0++[.osl 0 vv' 1],L0++[.osl vv ys.length 1 cs2 rs2 T],⟨[(0,.own 1 0)],[.osl 0 (.pm kT kt kg) T xs,.osl 0 (.pm kT kt kg) T ys]⟩,V',fun k=>?_,hle,Pin.of (ELe.push _ _),⟨HS.snoc H,by simp[hL],by simp[hE],fun i o ho=>?_,fun t=>?_⟩,?_,by simp,hres⟩
 ·show k (exOf none) _=_;have h2:(Shp.put (⟨[(0,.own 1)],[.osl (.pm kT kt kg) T,.osl (.pm kT kt kg) T]⟩:Shp) ((xs,ys):List (den (.pm kT kt kg))×List (den (.pm kT kt kg))))=⟨[(0,.own 1 0)],[.osl 0 (.pm kT kt kg) T xs,.osl 0 (.pm kT kt kg) T ys]⟩:=by
   have e2:∀y z:den (.sl (.pm kT kt kg)),zdM [.osl (.pm kT kt kg) T,.osl (.pm kT kt kg) T] [.v (.sl (.pm kT kt kg)) y,.v (.sl (.pm kT kt kg)) z]=[.osl 0 (.pm kT kt kg) T y,.osl 0 (.pm kT kt kg) T z]:=fun y z=>by rw[zdM,hq];simp only[];rw[e0];rfl
   exact congrArg (fun hp=>(⟨[(0,.own 1 0)],hp⟩:St)) (e2 xs ys)
  rw[h2];rfl
 ·cases i with
  |zero=>
   cases ho;refine⟨_,_,by rw[aF (by omega)];exact g1,by rw[aF (by omega)];exact g2,v,u,cs,rs,rfl,rfl,@RL.mono (den (.pm kT kt kg)) (rpD (.pm kT kt kg)) _ _ _ _ hrl hle,?_⟩;rcases hsm with h1|⟨h1,h2,_,h3⟩
   ·exact .inl h1
   ·exact .inr ⟨h1,h2,.inl ⟨h3,rfl,rfl⟩,h3⟩
  |succ i=>
   cases i with
   |zero=>
    cases ho;refine⟨_,_,by rw[aH (by omega),hL];rfl,by rw[aH (by omega),hE];rfl,vv,vv',cs2,rs2,rfl,rfl,hrl3,?_⟩;rcases hsm2 with h1|⟨h1,h2,_,h3⟩
    ·exact .inl h1
    ·exact .inr ⟨h1,h2,.inl ⟨h3,rfl,rfl⟩,h3⟩
   |succ i=>simp at ho
 ·cases t with
  |zero=>exact VR.ofC (show VC (wo1 S' (vkey v)) _ (.own 1 0) (V' 0)from⟨k3,.osl 0 vv' 1,by rw[aH (by omega),hE];rfl,fun r v s he=>by cases he;exact⟨aJ 0,fun _=>hV⟩⟩)|succ t=>trivial
 ·intro i ver e' T' xs' hi;cases i with
  |zero=>cases hi;rfl
  |succ i=>
   cases i with
   |zero=>cases hi;rfl
   |succ i=>simp at hi
end
end Go.Proofs.YtmbcolbbekbccaaGreat.Am
