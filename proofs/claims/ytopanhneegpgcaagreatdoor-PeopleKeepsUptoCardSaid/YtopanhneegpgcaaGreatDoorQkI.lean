/- Parts of one proof. Conditions: as each theorem says. -/
import Derived.Shelf.Strings.SlTrimAscii
import Derived.KernelRfl
import Derived.Test.YtopanhneegpgcaaGreatDoorRows
import Derived.Lib.Builder
import Derived.Lib.UnsafeStr
import Derived.LaidEql
import Derived.Laws.Externs
import Derived.Sort.KeysCollected
import Derived.Sort.Walk0
import Derived.Test.YtopanhneegpgcaaGreatDoorQkH
open Array renaming mapM_eq_mapM_toList->eH
open Bool renaming and_eq_true->aH
open List renaming all_cons->cC,all_eq_true->bK,any_eq_true->fG,dropWhile_cons->fK,eq_nil_of_length_eq_zero->aT,ext_getElem?->bD,getElem?_append_left->aE,getElem?_append_right->aF,getElem?_eq_getElem->aJ,getElem?_eq_some_iff->aC,getElem?_set_ne->aQ,getElem?_set_self->aM,length_append->aD,length_cons->aS,length_map->aI,map_cons->bG,mem_cons->aL,mem_cons_of_mem->aN,mem_cons_self->aO,mem_filter->cD,mem_iff_getElem->fW,mem_reverse->gY,pairwise_cons->aX,pairwise_iff_getElem->dC
open Nat renaming beq->aG,ble->bW,blt->cM,eq_of_beq_eq_true->aA,eq_zero_or_pos->eF,le_of_ble_eq_true->bB,le_refl->aK,lt_or_gt_of_ne->iL,zero_add->aU,zero_le->bS
open Option renaming bind->aP
open Go.Proofs.Tryz renaming prog->aB
namespace Go.Proofs.YtopanhneegpgcaaGreatDoor.Am
open Go Go.RowKit
section
variable {β:Type}{τ:TE}{Γ:CT}{η:HT}{N0 n:Nat}{P:Program}{B:Bas}{S:Mem}{E:List EI}{L:List Res}{σ:St}{m:FM}{w:World}{ops:Array Oper}{Q:Exit->Act->World->Prop}{rest:List Oper}{o:Oper}
def exQ:Ex->Exit
 |.normal=>.normal|.exit i=>.exit i|.ret=>.ret
theorem znD{α γ:Type}{f:α->γ}{o:Option α}{y:γ}(h:mapO f o=some y):∃x,o=some x/\f x=y:=by
 cases o with
 |none=>cases h
 |some x=>cases h;exact⟨x,rfl,rfl⟩
theorem yzM{a:Option Nat}{e:Ex}(h:isEx a e=true):exOf a=e:=by
 cases a with
 |none=>cases e<;>first|rfl|cases h
 |some n=>
  cases e with
  |normal=>cases h
  |exit i=>
   have h1:=aA (zaR h);subst h1;have h2:=zaV h;cases hb:aG n 1000000 with
   |true=>rw[hb]at h2;cases h2
   |false=>simp only[exOf,hb,zF]
  |ret=>simp only[exOf,show aG n 1000000=true from h,zE]
theorem Agr.ev{D:List Nat}{m m':FM}(h:Agr D m m'){t:Nat}(ht:hasN D t=false):evO n m' (.tmp t)=evO n m (.tmp t):=by show(bif cM t n then look m' t else undef)=(bif cM t n then look m t else undef);rw[h t ht]
theorem zsN{S':Mem}{E':List EI}{m':FM}{D:List Nat}(R:Rel n B S E L σ m w)(hS:Mem.le S S')(hA:Agr D m m'):∀(kp:List Nat) (t:Nat),VR S' E' (lkS (zuA D σ kp) t) (evO n m' (.tmp t))
 |[],_=>trivial|d::kp,t=>by
  unfold zuA;cases hb:!(hasN D d)&&yeY (lkS σ.sl d) with
  |false=>exact zsN R hS hA kp t|true=>
   simp only[zE,lkS];cases hd:aG d t with
   |false=>exact zsN R hS hA kp t|true=>
    have:=aA hd;subst this;have h1:=zaR hb
    have h2:hasN D d=false:=by cases hh:hasN D d with
     |true=>rw[hh]at h1;cases h1
     |false=>rfl
    rw[hA.ev h2];exact ywB (zaV hb) (R.sl d) hS
theorem xeN:∀(a b:List (Nat×SV)) (t:Nat),lkS (a++b) t=lkS a t∨lkS (a++b) t=lkS b t
 |[],_,_=>.inr rfl|(d,x)::a,b,t=>by
  simp only[List.cons_append,lkS];cases aG d t with
  |true=>exact .inl rfl|false=>exact xeN a b t
theorem RelV.app{V:Nat->Value}(R:RelV B S E L σ V w){l:List (Nat×SV)}(h:∀t,VR S E (lkS l t) (V t)):RelV B S E L (σ.app l) V w:=
 ⟨R.hs,R.lL,R.lE,R.obj,fun t=>by
  show VR S E (lkS (σ.sl++l) t) _;rcases xeN σ.sl l t with e|e
  ·rw[e];exact R.sl t
  ·rw[e];exact h t⟩
theorem yqX:∀(os:List OSh) (l:List SV),Ver0 (zcF os l)
 |[],l=>fun i ver e T xs h=>by cases l<;>(simp[zcF]at h)
 |o::os,l=>by
  obtain⟨a,l',h,ha⟩:=ykJ o os l;rw[h];intro i ver e T xs h;cases i with
  |zero=>simp at h;exact ha _ _ _ _ h|succ i=>exact yqX os l' i ver e T xs (by simpa using h)
theorem get_put{s:Shp}{x:zbT s.tys}(h:s.get N0 σ=some x):Ver0 (s.put x).hp/\N0<=(s.put x).hp.length:=by refine⟨yqX _ _,?_⟩;unfold Shp.get at h;obtain⟨h1,_⟩:=zaG h;show N0<=(zcF s.hp _).length;rw[ydI];exact bB (zaR h1)
theorem ybP{V:Nat->Value}(R:RelV B S E L σ V w){e:Ex}{kp:List (Nat×SV)}(hk:∀S' E',Mem.le S S'->∀t,VR S' E' (lkS kp t) (V t)):∀{outs:List (Option Nat×Shp)} {d:DS outs},inj N0 outs e σ=some d->∃S' E' L' σ',Mem.le S S'/\Pin N0 E E'/\RelV B S' E' L' σ' V w/\Ver0 σ'.hp/\N0<=σ'.hp.length/\∀{γ:Type} (k:Ex->St->Option γ),out kp outs d k=k e σ'
 |[],_,h=>by cases h
 |[a],d,h=>by obtain⟨h1,h2⟩:=zaG h;obtain⟨S',E',L',hS,hP,R'⟩:=ybA R (fun l=>zhR l R) h2;obtain⟨h3,h4⟩:=get_put h2;refine⟨S',E',L',_,hS,hP,R'.app (hk S' E' hS),h3,h4,fun k=>?_⟩;show k (exOf a.1) _=_;rw[yzM h1]
 |a::b::l,d,h=>by
  have next:mapO Sum.inr (inj N0 (b::l) e σ)=some d->∃S' E' L' σ',Mem.le S S'/\Pin N0 E E'/\RelV B S' E' L' σ' V w/\Ver0 σ'.hp/\N0<=σ'.hp.length/\∀{γ:Type} (k:Ex->St->Option γ),out kp (a::b::l) d k=k e σ':=fun h=>by obtain⟨x,h1,rfl⟩:=znD h;exact ybP R hk (outs:=b::l) h1
  simp only[inj]at h;cases hb:isEx a.1 e with
  |true=>
   rw[hb]at h;simp only[zE]at h;split at h
   ·rename_i x h1;cases h;obtain⟨S',E',L',hS,hP,R'⟩:=ybA R (fun l=>zhR l R) h1;obtain⟨h3,h4⟩:=get_put h1;refine⟨S',E',L',_,hS,hP,R'.app (hk S' E' hS),h3,h4,fun k=>?_⟩;show k (exOf a.1) _=_;rw[yzM hb]
   ·exact next h
  |false=>rw[hb]at h;exact next h
theorem HS.nil(H:HS B S w L)(sz:Nat)(T:TypeId):HS B S w (.osl (.slice none 0 0) 0 sz [] [] T::L):=by
 refine⟨H.fr,H.sub,H.keep,fun i q h=>?_,fun i q b h hb=>?_,fun i j q s b hi hj hq hs=>?_⟩
 ·cases i with
  |zero=>cases h;exact .inl ⟨rfl,rfl,rfl,rfl⟩
  |succ i=>exact H.own _ q h
 ·cases i with
  |zero=>cases h;cases hb
  |succ i=>exact H.old _ q b h hb
 ·cases i with
  |zero=>cases hi;cases hq
  |succ i=>
   cases j with
   |zero=>cases hj;cases hs
   |succ j=>rw[H.inj i j q s b hi hj hq hs]
theorem nl_ok{c:SV}{u:Value}(hc:isNl c=true)(hx:VR S E c u):Same S (.slice none 0 0) u 0/\u.oneCell'=true:=by
 cases c with
 |nils=>have hx:u = .slice none 0 0:=hx;subst hx;exact⟨.inl rfl,rfl⟩|emp=>have hx:VB S E .emp u:=hx;obtain⟨h1,a,rfl⟩:=hx;exact⟨.inr ⟨rfl,rfl,h1,a,rfl⟩,rfl⟩
 |_=>cases hc
theorem mk_new(R:Rel n B S E L σ m w){c:SV}{u:Value}(hc:isNl c=true)(hx:VR S E c u)(e:Ty)(T:TypeId):Rel n B S (E++[.osl 0 u (tsz e)]) (L++[.osl (.slice none 0 0) 0 (tsz e) [] [] T]) ⟨σ.sl,σ.hp++[.osl 0 e T []]⟩ m w/\VC S (E++[.osl 0 u (tsz e)]) (.own σ.hp.length 0) u:=by obtain⟨h1,h2⟩:=nl_ok hc hx;refine⟨R.snoc (HS.nil R.hs _ _) ⟨.slice none 0 0,u,[],[],rfl,rfl,rfl,h1⟩,h2,.osl 0 u (tsz e),by rw[<-R.lE];simp,fun r v s he=>?_⟩;cases he;exact⟨aK 0,fun _=>rfl⟩
theorem mk1_ok(R:Rel n B S E L σ m w)(x:Mk):∃S' E' L',Mem.le S S'/\ELe E E'/\Rel n B S' E' L' (mk1 σ x) m w:=by
 have same:∃S' E' L',Mem.le S S'/\ELe E E'/\Rel n B S' E' L' σ m w:=⟨S,E,L,Mem.le_refl _,ELe.refl _,R⟩;cases x with
 |sl d e T=>
  simp only[mk1];cases hn:isNl (lkS σ.sl d) with
  |false=>exact same|true=>obtain⟨R1,h1⟩:=mk_new R hn (R.sl d) e T;exact⟨S,_,_,Mem.le_refl _,ELe.push E _,R1.re (d:=d) (VR.ofC h1)⟩
 |cell d i e T=>
  simp only[mk1];split
  ·split
   ·rename_i id off hp _ T' cs hc;split
    ·rename_i c hi;cases hn:isNl c with
     |false=>exact same|true=>
      obtain⟨r0,e0,h1,h2,b,us,rfl,rfl,h3⟩:=R.objN hc;obtain⟨u,h4,h5⟩:=h3.at hi;obtain⟨R1,h6⟩:=mk_new R hn (VR.ofC h5) e T;have hlt:id<σ.hp.length:=by rw[<-R.lE];exact(aC.1 h2).1
      have h2':(E++[EI.osl 0 u (tsz e)])[id]? = some (.blk b):=by rw[aE (by rw[R.lE];exact hlt)];exact h2
      have h1':lkR (L++[Res.osl (.slice none 0 0) 0 (tsz e) [] [] T]) id=some (.blk b us T'):=by rw[zaW,aE (by rw[R.lL];exact hlt),<-zaW];exact h1
      have hst:stR (L++[Res.osl (.slice none 0 0) 0 (tsz e) [] [] T]) id (.blk b us T')=L++[Res.osl (.slice none 0 0) 0 (tsz e) [] [] T]:=by
       rw[ztO];apply bD;intro j;by_cases hj:id=j
       ·subst hj;rw[zaW]at h1';rw[aM (aC.1 h1').1,h1']
       ·rw[aQ hj]
      have h7:A2 (VC S (E++[EI.osl 0 u (tsz e)])) (setN cs i (.own σ.hp.length 0)) us:=by
       have h8:A2 (VC S (E++[EI.osl 0 u (tsz e)])) cs us:=h3.imp fun _ _ h=>h.mono (Mem.le_refl S) (ELe.push E _);have h9:=A2.set (a:=SV.own σ.hp.length 0) h6 i h8;have h10:us.set i u=us:=by
        apply bD;intro j;by_cases hj:i=j
        ·subst hj;rw[aM (aC.1 h4).1,h4]
        ·rw[aQ hj]
       rw[zfJ];rw[h10]at h9;exact h9
      exact⟨S,_,_,Mem.le_refl _,ELe.push E _,R1.upd1 (r':=.blk b us T') h2' (by rw[hst];exact R1.hs) ⟨b,us,rfl,rfl,h7⟩⟩
    ·exact same
   ·exact same
  ·exact same
 |qu d=>
  simp only[mk1];split
  ·rename_i id ver hv;split
   ·rename_i ver' e T x0 xs hc;cases hb:aG ver ver' with
    |false=>exact same|true=>
     have:=aA hb;subst this;obtain⟨r0,e0,h1,h2,v,v',cs,rs,rfl,rfl,h3,hsm⟩:=R.objN hc;obtain rfl:=hsm.eq (i:=0) (by simp);obtain⟨b,c,fz,k1,k2,k3⟩:=ykD R.hs h1 (i:=0) (by simp);subst k1;have hc2:(x0::xs).length<=c:=by
      rcases R.hs.own id _ h1 with⟨h,_⟩|⟨b',c',fz',h,h4,_⟩
      ·cases h
      ·injection h with _ _ h;rw[h];exact h4
     have hst:stR L id (.osl (sl b 0 (x0::xs).length c) (x0::xs).length (tsz e) cs rs T)=L:=by
      rw[ztO];apply bD;intro j;by_cases hj:id=j
      ·subst hj;rw[zaW]at h1;rw[aM (aC.1 h1).1,h1]
      ·rw[aQ hj]
     exact⟨S,_,_,Mem.le_refl _,ELe.refl _,R.upd1 (o':=.qu ver e T (x0::xs)) (r':=.osl (sl b 0 (x0::xs).length c) (x0::xs).length (tsz e) cs rs T) h2 (by rw[hst];exact R.hs) ⟨b,c,0,[],cs,rs,0,c,by rw[aU];rfl,rfl,by simp,h3,hc2,.inl ⟨by rw[Nat.zero_mul],by rw[aU]⟩⟩⟩
   ·exact same
  ·exact same
 |fz d=>
  simp only[mk1];split
  ·rename_i id v h;exact ynV R id
  ·exact same
theorem yaN:∀(l:List Mk) {σ:St} {S:Mem} {E:List EI} {L:List Res} (_:Rel n B S E L σ m w),∃S' E' L',Mem.le S S'/\ELe E E'/\Rel n B S' E' L' (zvQ σ l) m w
 |[],_,S,E,L,R=>⟨S,E,L,Mem.le_refl _,ELe.refl _,R⟩|x::l,_,_,_,_,R=>by obtain⟨S1,E1,L1,h1,h2,R1⟩:=mk1_ok R x;obtain⟨S2,E2,L2,h3,h4,R2⟩:=yaN l R1;exact⟨S2,E2,L2,Mem.le_trans h1 h3,h2.trans h4,R2⟩
theorem xcQ{K V:Ty}(hK:kOk K=true){es:List (den K×den V)}{ents:List MapEntry}(hM:MR S K V es ents){a c:MapEntry}(ha:a∈ents)(hc:c∈ents):a.key=c.key↔a.born=c.born:=by
 obtain⟨l,hl,hA⟩:=hM.perm;have hne:l.Pairwise fun p q=>keq K p.1 q.1=false:=(hl.pairwise_iff fun h=>ydX hK h).2 hM.ne;obtain⟨i,hi,rfl⟩:=fW.1 ha;obtain⟨j,hj,rfl⟩:=fW.1 hc;have hlen:=hA.len;constructor
 ·intro h;by_cases hij:i=j
  ·subst hij;rfl
  ·exfalso;obtain⟨p,hp,hp2⟩:=A2.at_r hA (aJ hi);obtain⟨q,hq,hq2⟩:=A2.at_r hA (aJ hj);have h2:p.1=q.1:=yjW hK (by rw[<-ybJ hK hp2.1,<-ybJ hK hq2.1,h]);have h3:∀{i j:Nat} {p q:den K×den V},i<j->l[i]? = some p->l[j]? = some q->p.1=q.1->False:=fun {i j p q} hij hp hq h2=>by obtain⟨h4,rfl⟩:=aC.1 hp;obtain⟨h5,rfl⟩:=aC.1 hq;have:=dC.1 hne i j h4 h5 hij;rw[h2]at this;rw[(zlB hK).2 rfl]at this;cases this
   rcases iL hij with h4|h4
   ·exact h3 h4 hp hq h2
   ·exact h3 h4 hq hp h2.symm
 ·intro h;by_cases hij:i=j
  ·subst hij;rfl
  ·exfalso;have h4:∀{i j:Nat} (hi:i<ents.length) (hj:j<ents.length),i<j->ents[i].born=ents[j].born->False:=fun {i j} hi hj hij h=>by have:=dC.1 hM.nd i j (by simpa using hi) (by simpa using hj) hij;simp only[List.getElem_map]at this;exact this h
   rcases iL hij with h5|h5
   ·exact h4 hi hj h5 h
   ·exact h4 hj hi h5 h.symm
theorem ypO{S R:Type}{f:S->List (Option (S⊕R))}{s:S}{r:R}(h:rngA f s=some r):∃n,Rng f n s r:=by
 unfold rngA at h;split at h
 ·rename_i hh;cases h;exact hh.choose_spec
 ·cases h
theorem rngL_mem{α γ:Type}{l:List α}{d:γ}{f:α->γ}{p:α}(h:p∈l):f p∈rngL l d f:=by
 cases l with
 |nil=>cases h
 |cons x l=>exact List.mem_map.2 ⟨p,h,rfl⟩
theorem yyR{γ:Type}{d t:Nat}{g0:St->Option γ}{Z:Option γ->Prop}(R:Rel n B S E L σ m w)(hZ:¬Z none)(hz:∀o∈xfO n σ d t g0,Z o){ty:TypeId}{pos:String}{aft:Array Edge}:
  outcome P (fun v w'=>∃σ' L',Z (g0 σ')/\Rel n B S E L' σ' ((d,v)::m) w') ((execOp (evO n m) ⟨some d,.next (.tmp t) false,ty,pos,aft,none⟩).run P w):=by
 have bad:∀{X:Prop},(∀o,o∈[(none:Option γ)]->Z o)->X:=fun h=>absurd (h none aO) hZ;unfold xfO at hz;split at hz
 ·rename_i i ht;split at hz
  ·rename_i mid gn K cur left hi;split at hz
   ·rename_i g' K' V es hm;split at hz
    ·rename_i hK _;subst hK;cases hb:aG gn g'&&cM d n with
     |false=>rw[hb]at hz;exact bad hz|true=>
      rw[hb]at hz;simp only[zE,zkM]at hz;have hd:cM d n=true:=zaV hb;have hg:=aA (zaR hb);subst hg;obtain⟨r0,e0,k1,k2,b,mb,ck,seen,rfl,rfl,hK,e1,k3,k4⟩:=R.objN hi;obtain⟨r1,e2,k5,k6,b2,ents,ck2,rfl,rfl,hM,hlt⟩:=R.objN hm;rw[k6]at k3;cases k3;obtain⟨_,k7⟩:=k4 _ _ _ _ rfl;obtain⟨rfl,rfl,k8⟩:=k7 rfl;obtain⟨l,hl,hA⟩:=hM.perm;have hv:=R.sl t;rw[ht]at hv;obtain⟨b3,hv,e3,q1,q2⟩:=hv;rw[k2]at q1;cases q1;have:=q2 _ rfl;subst this;have hh:w.heap[b]? = some (.mapIter (some b2) ck2 seen ck2):=R.hs.own i _ k1;have hh2:w.heap[b2]? = some (.map ents.toArray ck2):=R.hs.own mid _ k5;have exec:∀{u w'},(Instr.next (.pointer (some ⟨b,0,none⟩)) false ty).run P w = .ok u w'->(execOp (evO n m) ⟨some d,.next (.tmp t) false,ty,pos,aft,none⟩).run P w = .ok (.value u) w':=fun {u w'} h=>by have hv:evO n m (.tmp t) = .pointer (some ⟨b,0,none⟩):=hv;simp[execOp,hv,h,Result.andThen]
      rcases run_next_at (P:=P) w ty b b2 ck2 ck2 seen ents.toArray ck2 hh hh2 (by simpa using hlt) (aK _)with⟨h0,hrun⟩|⟨en,hen,w1,hw1,hrun⟩
      ·rw[exec hrun];have hnil:rngC (keq K) es left=[]:=by
        rw[rngC,List.filter_eq_nil_iff];intro p hp hany;obtain⟨k,hk,hke⟩:=fG.1 hany;obtain⟨en,hen,h1⟩:=A2.mem_l hA p (hl.mem_iff.2 hp);have h2:en.born∉seen:=fun h=>((k8 en hen).1.1 h) k hk (by rw[ybJ hK h1.1,(zlB hK).1 hke]);have:en∈(leftOf ents.toArray seen):=by simp[leftOf,hen,h2]
        have h3:=Array.size_pos_of_mem this;omega
       rw[hnil]at hz;exact⟨_,_,hz _ aO,R.put (x:=.tup [.v .b false]) ⟨[.bool false],rfl,.cons (show rep .b S [.bool false] false from rfl) .nil⟩ hd⟩
      ·rw[exec hrun];have hen':en∈ents/\en.born∉seen:=by simpa[leftOf]using hen
       obtain⟨p,hp,hpe⟩:=A2.mem_r hA en hen'.1;have hkey:=ybJ hK hpe.1;have hex:∃k∈left,en.key=kv K k:=by refine Classical.byContradiction fun hno=>hen'.2 ((k8 en hen'.1).1.2 fun k hk h=>hno ⟨k,hk,h⟩)
       obtain⟨k,hk,hkk⟩:=hex;have hpk:p.1=k:=yjW hK (hkey.symm.trans hkk);have hpm:p∈rngC (keq K) es left:=by rw[rngC,cD];exact⟨hl.mem_iff.1 hp,fG.2 ⟨k,hk,(zlB hK).2 hpk⟩⟩
       have h1:=hz _ (rngL_mem (d:=g0 (σ.put d (.tup [.v .b false]))) (f:=fun p=>g0 ⟨(d,.tup [.v .b true,svOf K p.1,svOf V p.2])::σ.sl,setN σ.hp i (.it mid gn K (some p.1) (rngD (keq K) left p.1))⟩) hpm);have H1:HS B S w1 L:=by
        rcases hw1 with rfl|rfl
        ·exact R.hs
        ·exact R.hs.drew
       have hh1:w1.heap=w.heap:=by rcases hw1 with rfl|rfl<;>rfl
       have hlt1:b<w1.heap.size:=by rw[hh1];exact lt_of_heap hh
       have H2:HS B S (Go.ChangeMaps.setBlock w1 b (.mapIter (some b2) ck2 (seen.push en.born) ck2)) (stR L i (.obj b (.mapIter (some b2) ck2 (seen.push en.born) ck2))):=by
        refine H1.upd k1 (by simp[Go.ChangeMaps.setBlock]) rfl rfl rfl (fun j hj hne=>?_) ?_ fun b' hb'=>.inl hb'
        ·have:j≠b:=fun e=>hne (by rw[e];rfl);simp[Go.ChangeMaps.setBlock,Ne.symm this]
        ·show((Go.ChangeMaps.setBlock w1 b _).heap)[b]? = _;simp[Go.ChangeMaps.setBlock,hlt1]
       have hA1:=hA
       have R1:=R.upd1 (o':=.it mid gn K (some p.1) (rngD (keq K) left p.1)) k2 H2 ⟨b,b2,ck2,seen.push en.born,rfl,rfl,hK,_,k6,fun g2 b4 c2 es2 he=>by
        cases he;refine⟨aK _,fun _=>⟨rfl,rfl,fun e4 he4=>⟨?_,fun c hc=>?_⟩⟩⟩
        ·have hkb:e4.key=en.key↔e4.born=en.born:=xcQ hK hM he4 hen'.1;rw[Array.mem_push,(k8 e4 he4).1];constructor
         ·rintro(h|h) k' hk'
          ·exact h k' (cD.1 hk').1
          ·rw[hkb.2 h,hkey];intro h5;have:=(cD.1 hk').2;rw[(zlB hK).2 (yjW hK h5).symm]at this;cases this
         ·intro h;by_cases h5:e4.born=en.born
          ·exact .inr h5
          ·refine .inl fun k' hk' h6=>h k' (cD.2 ⟨hk',?_⟩) h6;rw[Bool.not_eq_true',zsD hK];intro h7;exact h5 (hkb.1 (by rw[h6,h7,hkey]))
        ·cases hc;rw[<-hkey,Array.back?_push]
         exact(xcQ hK hM he4 hen'.1).trans ⟨fun h=>by rw[h],fun h=>(osi h).symm⟩⟩
       refine⟨_,_,h1,R1.put (x:=.tup [.v .b true,svOf K p.1,svOf V p.2]) ⟨[.bool true,en.key,en.val],rfl,.cons (show rep .b S [.bool true] true from rfl) (.cons (ztW hpe.1) (.cons (ztW hpe.2) .nil))⟩ hd⟩
    ·exact bad hz
   ·exact bad hz
  ·exact bad hz
 ·exact bad hz
def Good(P:Program)(N0 n:Nat)(B:Bas)(c:Code){β:Type}(rn:(Ex->St->Option β)->Option β)(S:Mem)(E:List EI)(m:FM)(w:World):Prop:=
 ∀(k:Ex->St->Option β) (r:β) (Q:Exit->Act->World->Prop),rn k=some r->(∀e σ' S' E' L' m' w',k e σ'=some r->Mem.le S S'->Pin N0 E E'->Agr (zcO c) m m'->Rel n B S' E' L' σ' m' w'->Q (exQ e) (fr n m') w')->c.wp P Q (fr n m) w
theorem zpU{α γ:Type}{o:Option α}{f:α->Option γ}{r:γ}(h:aP o f=some r):∃x,o=some x/\f x=some r:=bnd h
theorem zuS(hm:P.follows .mixedOrders=true)(hτ:TEok P τ)(hΓ:CTok P Γ B):∀(c:Code) {β:Type} {σ:St} {S:Mem} {E:List EI} {L:List Res} {m:FM} {w:World},Rel n B S E L σ m w->Good P N0 n B c (β:=β) (run N0 n τ Γ η c σ) S E m w
 |.skip,_,σ,S,E,L,m,w,R,k,r,Q,h,hQ=>wp_skip (hQ .normal _ _ _ _ _ _ h (Mem.le_refl _) (Pin.refl _ _) (Agr.refl _ _) R)|.exit id,_,σ,S,E,L,m,w,R,k,r,Q,h,hQ=>wp_exit (hQ (.exit id) _ _ _ _ _ _ h (Mem.le_refl _) (Pin.refl _ _) (Agr.refl _ _) R)|.ret,_,σ,S,E,L,m,w,R,k,r,Q,h,hQ=>wp_ret (hQ .ret _ _ _ _ _ _ h (Mem.le_refl _) (Pin.refl _ _) (Agr.refl _ _) R)|.region id ops d,_,σ,S,E,L,m,w,R,k,r,Q,h,hQ=>by
  obtain⟨ops⟩:=ops;cases d with
  |true=>exact xcX hm hτ hΓ R h (fun σ' S' E' L' m' w' h1 h2 h3 h4 R1=>hQ .normal _ _ _ _ _ _ h1 h2 (Pin.of h3) h4 R1)|false=>exact wp_region_lit (ycQ hτ hΓ (fun σ' S' E' L' m' w' h1 h2 h3 h4 R1=>hQ .normal _ _ _ _ _ _ h1 h2 (Pin.of h3) h4 R1) ops (fun _ h=>h) (Mem.le_refl _) (ELe.refl _) (Agr.refl _ _) R h)
 |.cond c a b,_,σ,S,E,L,m,w,R,k,r,Q,h,hQ=>by
  simp only[run]at h;split at h
  ·rename_i t hc;have hv:evO n m c = .bool t:=vB (zbF R hc);refine yrR hv (fun ht=>?_) (fun ht=>?_)
   ·subst ht;exact zuS hm hτ hΓ a R k r Q h (fun e σ' S' E' L' m' w' h1 h2 hP h3 R1=>hQ e σ' S' E' L' m' w' h1 h2 hP h3.l R1)
   ·subst ht;exact zuS hm hτ hΓ b R k r Q h (fun e σ' S' E' L' m' w' h1 h2 hP h3 R1=>hQ e σ' S' E' L' m' w' h1 h2 hP h3.r R1)
  ·cases h
 |.seq a b,_,σ,S,E,L,m,w,R,k,r,Q,h,hQ=>by
  have next:∀e σ' S' E' L' m' w',nx k (fun σ=>run N0 n τ Γ η b σ k) e σ'=some r->Mem.le S S'->Pin N0 E E'->Agr (zcO a) m m'->Rel n B S' E' L' σ' m' w'->Exit.then (b.wp P Q) Q (exQ e) (fr n m') w':=fun e σ' S' E' L' m' w' h1 hS hP hA R1=>by
   cases e with
   |normal=>exact zuS hm hτ hΓ b R1 k r Q h1 (fun e σ' S' E' L' m' w' h1 h2 hP2 h3 R1=>hQ e σ' S' E' L' m' w' h1 (Mem.le_trans hS h2) (hP.trans hP2) ((Agr.l hA).trans (Agr.r h3)) R1)|exit i=>exact hQ (.exit i) _ _ _ _ _ _ h1 hS hP hA.l R1|ret=>exact hQ .ret _ _ _ _ _ _ h1 hS hP hA.l R1
  simp only[run]at h;refine wp_seq ?_;split at h
  ·rename_i mk kp outs hj;obtain⟨d,h1,h2⟩:=zpU h;obtain⟨S0,E0,L0,hS0,hE0,R0⟩:=yaN mk R;refine zuS hm hτ hΓ a R0 (inj N0 outs) d _ h1 fun e σ' S' E' L' m' w' h3 hS hP hA R1=>?_;obtain⟨S2,E2,L2,σ2,hS2,hP2,R2,_,_,h4⟩:=ybP R1 (kp:=zuA (zcO a) (zvQ σ mk) kp) (fun S'' E'' hS'' t=>zsN R0 (Mem.le_trans hS hS'') hA kp t) h3;rw[h4]at h2;exact next e σ2 _ _ _ _ _ h2 (Mem.le_trans hS0 (Mem.le_trans hS hS2)) ((Pin.of hE0).trans (hP.trans hP2)) hA R2
  ·exact zuS hm hτ hΓ a R _ r _ h next
 |.block id b,_,σ,S,E,L,m,w,R,k,r,Q,h,hQ=>by
  have next:∀e σ' S' E' L' m' w',blk id k e σ'=some r->Mem.le S S'->Pin N0 E E'->Agr (zcO b) m m'->Rel n B S' E' L' σ' m' w'->Exit.inBlock id Q (exQ e) (fr n m') w':=fun e σ' S' E' L' m' w' h1 hS hP hA R1=>by
   cases e with
   |normal=>exact hQ .normal _ _ _ _ _ _ h1 hS hP hA R1|ret=>exact hQ .ret _ _ _ _ _ _ h1 hS hP hA R1|exit i=>
    simp only[blk]at h1;cases hb:aG i id with
    |true=>rw[hb]at h1;have:=aA hb;subst this;exact b_hit (hQ .normal _ _ _ _ _ _ h1 hS hP hA R1)|false=>rw[hb]at h1;exact xaO hb (hQ (.exit i) _ _ _ _ _ _ h1 hS hP hA R1)
  simp only[run]at h;refine wp_block ?_;split at h
  ·rename_i mk kp outs hj;obtain⟨d,h1,h2⟩:=zpU h;obtain⟨S0,E0,L0,hS0,hE0,R0⟩:=yaN mk R;refine zuS hm hτ hΓ b R0 _ d _ h1 fun e σ' S' E' L' m' w' h3 hS hP hA R1=>?_;have fin:∀e',inj N0 outs e' σ'=some d->Q (exQ e') (fr n m') w':=fun e' h3=>by obtain⟨S2,E2,L2,σ2,hS2,hP2,R2,_,_,h4⟩:=ybP R1 (kp:=zuA (zcO b) (zvQ σ mk) kp) (fun S'' E'' hS'' t=>zsN R0 (Mem.le_trans hS hS'') hA kp t) h3;rw[h4]at h2;exact hQ e' σ2 _ _ _ _ _ h2 (Mem.le_trans hS0 (Mem.le_trans hS hS2)) ((Pin.of hE0).trans (hP.trans hP2)) hA R2
   cases e with
   |normal=>exact fin .normal h3|ret=>exact fin .ret h3|exit i=>
    simp only[blk]at h3;cases hb:aG i id with
    |true=>rw[hb]at h3;have:=aA hb;subst this;exact b_hit (fin .normal h3)|false=>rw[hb]at h3;exact xaO hb (fin (.exit i) h3)
  ·exact zuS hm hτ hΓ b R _ r _ h next
 |.loop b,_,σ,S,E,L,m,w,R,k,r,Q,h,hQ=>by
  simp only[run]at h;split at h
  ·rename_i mk s kp outs hj;split at h
   ·rename_i s0 hs0;obtain⟨d,h1,h2⟩:=zpU h;obtain⟨S0,E0,L0,hS0,hE0,R0⟩:=yaN mk R;obtain⟨S1,E1,L1,hS1,hP1,R1⟩:=ybA R0 (fun l=>zhR l R0) hs0;have hQ:∀e σ' S' E' L' m' w',k e σ'=some r->Mem.le S0 S'->Pin N0 E0 E'->Agr (zcO b) m m'->Rel n B S' E' L' σ' m' w'->Q (exQ e) (fr n m') w':=fun e σ' S' E' L' m' w' h1 h2 h3 h4 h5=>hQ e σ' S' E' L' m' w' h1 (Mem.le_trans hS0 h2) ((Pin.of hE0).trans h3) h4 h5;clear hS0 hE0 R;generalize zvQ σ mk=σ at *;refine yzO (fun g a w=>∃m' x S' E' L',a=fr n m'/\Mem.le S0 S'/\Pin N0 E0 E'/\Agr (zcO b) m m'/\Rel n B S' E' L' (s.put x) m' w/\zrW (fun x=>run N0 n τ Γ η b ((s.put x).app (zuA (zcO b) σ kp)) (nx (fun e σ=>mapO Sum.inr (inj N0 outs e σ)) fun σ=>mapO Sum.inl (s.get N0 σ))) g x=some d) FU ⟨m,s0,S1,E1,L1,rfl,hS1,hP1,Agr.refl _ _,R1,h1⟩ ?_;rintro g a w ⟨m2,x,S2,E2,L2,rfl,hS2,hP2,hA2,R2,hit⟩;cases g with
    |zero=>cases hit
    |succ g=>
     obtain⟨o,h3,h4⟩:=yyJ hit;refine zuS hm hτ hΓ b (R2.app (zsN R0 hS2 hA2 kp)) _ o _ h3 fun e σ' S' E' L' m' w' h5 hS3 hP3 hA3 R3=>?_;have hSS:=Mem.le_trans hS2 hS3;have hAA:=hA2.trans hA3
     have fin:∀e',mapO Sum.inr (inj N0 outs e' σ')=some o->Q (exQ e') (fr n m') w':=fun e' h5=>by
      obtain⟨d',h6,rfl⟩:=znD h5;have h7:d'=d:=by cases h4;rfl
      subst h7;obtain⟨S4,E4,L4,σ4,hS4,hP4,R4,_,_,h8⟩:=ybP R3 (kp:=zuA (zcO b) σ kp) (fun S'' E'' hS'' t=>zsN R0 (Mem.le_trans hSS hS'') hAA kp t) h6;rw[h8]at h2;exact hQ e' σ4 _ _ _ _ _ h2 (Mem.le_trans hSS hS4) ((hP2.trans hP3).trans hP4) hAA R4
     cases e with
     |normal=>obtain⟨x',h6,rfl⟩:=znD h5;obtain⟨S4,E4,L4,hS4,hP4,R4⟩:=ybA R3 (fun l=>zhR l R3) h6;exact⟨g,Nat.lt_succ_self g,m',x',S4,E4,L4,rfl,Mem.le_trans hSS hS4,(hP2.trans hP3).trans hP4,hAA,R4,h4⟩
     |exit i=>exact fin (.exit i) h5|ret=>exact fin .ret h5
   ·cases h
  ·rename_i mk s kp outs hj;split at h
   ·rename_i id ops c;split at h
    ·rename_i d t ty pos aft l hops;split at h
     ·rename_i s0 hs0;obtain⟨dd,h1,h2⟩:=zpU h;obtain⟨fuel,hrng⟩:=ypO h1;obtain⟨S0,E0,L0,hS0,hE0,R0⟩:=yaN mk R;obtain⟨S1,E1,L1,hS1,hP1,R1⟩:=ybA R0 (fun l=>zhR l R0) hs0;have hQ:∀e σ' S' E' L' m' w',k e σ'=some r->Mem.le S0 S'->Pin N0 E0 E'->Agr (zcO (.seq (.region id ops false) c)) m m'->Rel n B S' E' L' σ' m' w'->Q (exQ e) (fr n m') w':=fun e σ' S' E' L' m' w' h1 h2 h3 h4 h5=>hQ e σ' S' E' L' m' w' h1 (Mem.le_trans hS0 h2) ((Pin.of hE0).trans h3) h4 h5;clear hS0 hE0 R;generalize zvQ σ mk=σ at *;refine yzO (fun g a w=>∃m' x S' E' L',a=fr n m'/\Mem.le S0 S'/\Pin N0 E0 E'/\Agr (zcO (.seq (.region id ops false) c)) m m'/\Rel n B S' E' L' (s.put x) m' w/\Rng (fun x=>xfO n ((s.put x).app (zuA (zcO (.seq (.region id ops false) c)) σ kp)) d t fun σ=>steps n τ Γ ops.toList l σ fun σ=>run N0 n τ Γ η c σ (nx (fun e σ=>mapO Sum.inr (inj N0 outs e σ)) fun σ=>mapO Sum.inl (s.get N0 σ))) g x dd) fuel ⟨m,s0,S1,E1,L1,rfl,hS1,hP1,Agr.refl _ _,R1,hrng⟩ ?_;rintro g a w ⟨m2,x,S2,E2,L2,rfl,hS2,hP2,hA2,R2,hit⟩;cases g with
      |zero=>exact hit.elim|succ g=>
       have hD:∀t',hasN (ztC (⟨some d,.next (.tmp t) false,ty,pos,aft,none⟩::l)) t'=true->hasN (zcO (.seq (.region id ops false) c)) t'=true:=fun t' ht'=>by show hasN (ztC ops.toList++zcO c) t'=true;rw[zmN,hops,ht'];rfl
       obtain⟨ops⟩:=ops;have hops:ops=_:=hops;subst hops;refine wp_seq (wp_region_lit (wl_do (zsK rfl) (yyR (R2.app (zsN R0 hS2 hA2 kp)) (Z:=rngO (fun s'=>Rng _ g s' dd) dd) (fun h=>h) hit) ?_));rintro v w' ⟨σ1,L3,hy,R3⟩;generalize hyo:(steps n τ Γ _ l σ1 fun σ=>run N0 n τ Γ η c σ (nx (fun e σ=>mapO Sum.inr (inj N0 outs e σ)) fun σ=>mapO Sum.inl (s.get N0 σ)))=o at hy
       match o,hy with
       |some y,hy2=>
        rw[yfA];refine ycQ hτ hΓ (D:=zcO (.seq (.region id _ false) c)) (S0:=S2) (E0:=E2) (m0:=m2) (fun σ' S' E' L' m' w' h5 hS3 hE3 hA3 R4=>?_) l (fun t' ht'=>hD t' (ydW ht')) (Mem.le_refl _) (ELe.refl _) (Agr.put (hD d (ydV rfl))) R3 hyo;refine zuS hm hτ hΓ c R4 _ y _ h5 fun e σ' S' E' L' m' w' h5 hS4 hP4 hA4 R4=>?_;have hSS:=Mem.le_trans hS2 (Mem.le_trans hS3 hS4);have hAA:=hA2.trans (hA3.trans hA4.r);have hPP:=(hP2.trans (Pin.of hE3)).trans hP4;have fin:∀e',mapO Sum.inr (inj N0 outs e' σ')=some y->Q (exQ e') (fr n m') w':=fun e' h5=>by obtain⟨d',h6,rfl⟩:=znD h5;have h7:d'=dd:=hy2;subst h7;obtain⟨S4,E4,L4,σ4,hS4,hP4,R4,_,_,h8⟩:=ybP R4 (kp:=zuA (zcO (.seq (.region id _ false) c)) σ kp) (fun S'' E'' hS'' t=>zsN R0 (Mem.le_trans hSS hS'') hAA kp t) h6;rw[h8]at h2;exact hQ e' σ4 _ _ _ _ _ h2 (Mem.le_trans hSS hS4) (hPP.trans hP4) hAA R4
        cases e with
        |normal=>obtain⟨x',h6,rfl⟩:=znD h5;obtain⟨S4,E4,L4,hS4,hP4,R4⟩:=ybA R4 (fun l=>zhR l R4) h6;exact⟨g,Nat.lt_succ_self g,m',x',S4,E4,L4,rfl,Mem.le_trans hSS hS4,hPP.trans hP4,hAA,R4,hy2⟩
        |exit i=>exact fin (.exit i) h5|ret=>exact fin .ret h5
     ·cases h
    ·cases h
   ·cases h
  ·cases h
theorem ysR{s:Sem Value}{u:Value}(h:(do pure (Next.value (<-s)):Sem Next).run P w = .ok (.value u) w):s.run P w = .ok u w:=by
 rw[Sem.run_bind]at h;cases hs:s.run P w with
 |ok v w'=>rw[hs]at h;simp only[Result.andThen_ok,Sem.run_pure]at h;injection h with h1 h2;injection h1 with h1;rw[h1,h2]
 |halt x w'=>rw[hs]at h;cases h
theorem resV_ok(hτ:TEok P τ)(R:Rel n B S E L σ m w){v:ResultVar}{x:SV}(h:resV τ σ v=some x):∃u,VR S E x u/\(resS (fr n m).tmps v).run P w = .ok u w:=by
 cases v with
 |tmp t=>cases h;exact⟨_,R.sl t,ysP rfl⟩
 |cell t T=>
  simp only[resV]at h;split at h
  ·rename_i f hT
   have h':deref σ.hp (lkS σ.sl t) f.sz (fun l=>bindS (svAt f l) some)=some x:=by
    have e1:(fun l=>bindS (svAt f l) some)=fun l=>svAt f l:=by funext l;cases svAt f l<;>rfl
    rw[e1];exact h
   obtain ⟨z, u, h1, h2, h3⟩ := xeM (dst := none) (g := none) (ty := 0) (pos := "") (aft := #[]) (a := .tmp t) (k := some) R (hτ _ _ hT) (R.sl t) h';cases h1;refine⟨u,h2,?_⟩;have h4:=ysR (h3 w R.hs);show(do loadVar T (<-asAddr ((fr n m).tmps.getD t undef)):Sem Value).run P w=_;rw[xaV];have h5:(do loadVar T (<-Instr.sureAddr (evO n m (.tmp t))):Sem Value).run P w = .ok u w:=h4;cases hp:evO n m (.tmp t) with
   |pointer a=>
    rw[hp]at h5;cases a with
    |none=>simp[Instr.sureAddr]at h5|some a=>simpa[Instr.sureAddr,asAddr]using h5
   |_=>rw[hp]at h5;simp[Instr.sureAddr]at h5
  ·cases h
theorem ygJ(hτ:TEok P τ)(R:Rel n B S E L σ m w):∀{l:List ResultVar} {xs:List SV},yeF τ σ l=some xs->∃us,A2 (VR S E) xs us/\(l.mapM (resS (fr n m).tmps)).run P w = .ok us w
 |[],xs,h=>by cases h;exact⟨[],.nil,by simp⟩
 |v::l,xs,h=>by
  unfold yeF at h;split at h
  ·rename_i x y h1 h2;cases h;obtain⟨u,h3,h4⟩:=resV_ok hτ R h1;obtain⟨us,h5,h6⟩:=ygJ hτ R h2;exact⟨u::us,.cons h3 h5,by simp only[List.mapM_cons,Sem.run_bind,h4,Result.andThen_ok,h6,Sem.run_pure]⟩
  ·cases h
theorem yuF:∀{l:List Ty} {us:LV} {x:zbT l},repA S l us x->us.length=l.length
 |[],us,_,h=>by have:us=[]:=h;subst this;rfl
 |[_],_,_,⟨_,e,_⟩=>by rw[e];rfl
 |_::t'::l,_,_,⟨_,_,e,_,h⟩=>by rw[e];simp[yuF h]
theorem repR_of{l:List Ty}{us:LV}{x:zbT l}(h:repA S l us x):repR S l (if h:us.toArray.size=1 then us.toArray[0]else .tuple us.toArray) x:=by
 match l,x,h with
 |[],x,h=>have:us=[]:=h;subst this;exact⟨[],rfl,rfl⟩|[t],x,⟨u,e,h1⟩=>subst e;exact h1|t::t'::l,x,h=>have hl:=yuF h;rw[dif_neg (by simp at hl ⊢;omega)];exact⟨us,rfl,h⟩
theorem xeR:∀{xs:List SV} {us:LV} (i t:Nat),A2 (VR S E) xs us->VR S E (lkS (argS i xs) t) (look (argm us i) t)
 |_,_,i,t,.nil=>trivial|_,_,i,t,.cons a r=>by
  unfold argS lkS argm look;cases aG i t with
  |true=>exact a|false=>exact xeR (i+1) t r
theorem ypX:∀(us:LV) (i t:Nat),look (argm us i) t=if i<=t then us.getD (t-i) undef else undef
 |[],i,t=>by simp[argm,look]
 |u::us,i,t=>by
  unfold argm look;rw[ypX us (i+1) t];cases hb:aG i t with
  |true=>have:=aA hb;subst this;simp|false=>
   have hne:i≠t:=fun e=>by subst e;rw[Nat.beq_refl]at hb;cases hb
   simp only[zF];by_cases h:i<=t
   ·rw[zI h,zI (by omega),show t-i=(t-(i+1))+1 by omega,List.getD_cons_succ]
   ·rw[zH h,zH (by omega)]
theorem ylU:∀(ash:List Sh) (l:List SV),(putL ash l).1.length=ash.length
 |[],_=>rfl|a::ash,l=>by simp only[putL,aS,ylU ash]
theorem yiR:∀{xs:List SV} {i t:Nat},i+xs.length<=t->lkS (argS i xs) t = .undef
 |[],_,_,_=>rfl|x::xs,i,t,h=>by
  simp only[aS]at h;unfold argS lkS;have:aG i t=false:=by rw[zqR];simp;omega
  rw[this];exact yiR (by omega)
theorem yuU{G:List (Nat×Obj)}{S0:Mem}{w0:World}(hG:GS G S0)(hS:Sub S0 w0):GB G ⟨S0,[],w0⟩:=fun p hp=>⟨hS.lt (hG p hp),by simp,hG p hp⟩
theorem gb_in{G:List (Nat×Obj)}{B:Bas}{S0:Mem}{w0:World}{L0:List Res}(hG:GS G S0)(H:HS B S0 w0 L0):GB G ⟨S0,zbD L0,w0⟩:=fun p hp=>by refine⟨H.sub.lt (hG p hp),fun h=>?_,hG p hp⟩;obtain⟨k,r,h1,h2⟩:=zdF.1 h;have:=(H.old k r _ h1 h2).2;rw[hG p hp]at this;cases this
theorem xbR{f:FuncId}{fn:Func}{ats:List Sh}{rts:List Ty}{S0:Mem}{w0:World}{us:LV}{a:zbT (ats.flatMap Sh.tys)}{y:zbT rts}(hm:P.follows .mixedOrders=true)(hτ:TEok P τ)(hΓ:CTok P Γ ⟨S0,[],w0⟩)(hf:P.funcs[f]? = some fn)(hl:bW ats.length fn.ntmps=true)(hS:Sub S0 w0)(ha:A2 (VR S0 []) (putL ats (zmD _ a)).1 us)(hy:fnP τ Γ η fn ats rts a=some y):Calls P f us.toArray w0 fun e w'=>Ext w0 w'/\∃v,e = .returned v/\repR (gr S0 w0 w') rts v y:=by
 have hul:us.length=ats.length:=by rw[<-ha.len,ylU]
 unfold fnP at hy;split at hy
 ·cases hy
 ·rename_i c hb;obtain⟨hj,hy⟩:=zaG hy;refine enter hf hb rfl (by rw[hul];exact hl) ?_;have R0:Rel fn.ntmps ⟨S0,[],w0⟩ S0 [] [] ⟨argS 0 (putL ats (zmD _ a)).1,[]⟩ (argm us 0) w0:=by
   refine⟨HS.start hS,rfl,rfl,fun i o h=>by simp at h,fun t=>?_⟩;show VR S0 [] (lkS (argS 0 (putL ats (zmD _ a)).1) t) (bif cM t fn.ntmps then look (argm us 0) t else undef);cases ht:cM t fn.ntmps with
   |true=>exact xeR 0 t ha|false=>rw[zmU]at ht;have h1:=of_decide_eq_false ht;have h2:=bB hl;rw[yiR (by rw[ylU];omega)];trivial
  refine zuS hm hτ hΓ c R0 (fin τ fn rts) y _ hy fun e σ' S' E' L' m' w' h1 _ _ _ R1=>?_
  have key:∀(_:(match yeF τ σ' fn.results.toList with
    |some l=>match yeF τ (frzL σ' (l.flatMap owns)) fn.results.toList with
     |some l=>ylG [] rts l|none=>none
    |none=>none)=some y),(fr fn.ntmps m').defers=[]/\∃v,(results fn (fr fn.ntmps m').tmps).run P w' = .ok v w'/\∃v',Ending.returned v = .returned v'/\Ext w0 w'/\repR (gr S0 w0 w') rts v' y:=fun h1=>by
   split at h1
   ·rename_i l hl1;split at h1
    ·rename_i l2 hl2;obtain⟨S2,E2,L2,_,_,R2⟩:=zhR (l.flatMap owns) R1;obtain⟨vs,h3,h4⟩:=ygJ (P:=P) hτ R2 hl2;have h5:=yiM R2.hs.gr rts (yvQ rts hj (yuJ (Mem.le_refl _) zfU rts h1 h3));refine⟨rfl,_,?_,_,rfl,R2.hs.toExt,repR_of h5⟩;rw[zvC,eH];simp only[Sem.run_bind,Sem.run_map,h4,Result.andThen_ok,Sem.run_pure]
    ·cases h1
   ·cases h1
  cases e with
  |normal=>obtain⟨h2,v,h3,v',h4,h5,h6⟩:=key h1;cases h4;exact⟨h2,v,h3,h5,v,rfl,h6⟩
  |ret=>obtain⟨h2,v,h3,v',h4,h5,h6⟩:=key h1;cases h4;exact⟨h2,v,h3,h5,v,rfl,h6⟩
  |exit i=>cases h1
theorem fn_ok{G:List (Nat×Obj)}{f:FuncId}{fn:Func}{ats:List Sh}{rts:List Ty}(hm:P.follows .mixedOrders=true)(hτ:TEok P τ)(hΓ:∀B,GB G B->CTok P Γ B)(hf:P.funcs[f]? = some fn)(hfn:IsFn P f)(hl:bW ats.length fn.ntmps=true):PCok P G f ⟨ats,rts,fnP τ Γ η fn ats rts,false⟩:=
 ⟨hfn,fun S0 w0 us a y hG hS ha hy=>(xbR hm hτ (hΓ _ (yuU hG hS)) hf hl hS ha hy).mono fun _ _ h=>⟨h.1,h.2.imp fun _ h=>⟨h.1,h.2,fun h=>by cases h⟩⟩⟩
def cNJ:SV->Bool
 |.v t _=>noJk t|_=>false
def svNJ:SV->Bool
 |.v t _=>noJk t|.ag l=>l.all cNJ|_=>false
theorem xdQ{S:Mem}:∀{l:List SV} {us:LV},l.all cNJ=true->A2 (VC S []) l us->A2 (VC (cut S) []) l us
 |_,_,_,.nil=>.nil|x::_,_,hj,.cons h t=>by
  rw[cC,aH]at hj;refine .cons ?_ (xdQ hj.2 t);have hj:=hj.1;cases x with
  |v t x=>exact ztM t hj _ _ h|_=>cases hj
theorem vr_cut{S:Mem}:∀{x:SV} {u:Value},svNJ x=true->VR S [] x u->VR (cut S) [] x u:=fun {x u} hj h=>by
 cases x with
 |v t x=>exact ztM t hj _ _ h|ag l=>obtain⟨us,e,h⟩:=(show ∃us,u = .agg us.toArray/\A2 (VC S []) l us from h);exact⟨us,e,xdQ hj h⟩
 |_=>cases hj
theorem xaK{S:Mem}:∀{l:List SV} {us:LV},l.all svNJ=true->A2 (VR S []) l us->A2 (VR (cut S) []) l us
 |_,_,_,.nil=>.nil|_,_,hj,.cons h t=>by rw[cC,aH]at hj;exact .cons (vr_cut hj.1 h) (xaK hj.2 t)
theorem xeQ{S:Mem}{w:World}(h:Sub S w):Sub (cut S) w:=fun b o e=>h b o (cut_le b o e)
theorem cut_gr{S:Mem}{w w':World}:Mem.le (gr (cut S) w w') (gr S w w'):=fun b o e=>by
 unfold gr at e ⊢;split at e
 ·rename_i h;rw[zI h];exact cut_le b o e
 ·rename_i h;rw[zH h];exact e
theorem xfA{S T:Mem}(hl:Mem.le S T){l:List Ty}{u:Value}{x:zbT l}(h:repR S l u x):repR T l u x:=by
 match l,x,h with
 |[],_,⟨us,hu,h⟩=>exact⟨us,hu,h⟩|[t],_,h=>exact rep1.mono h hl|t::t'::l,_,⟨us,hu,h⟩=>exact⟨us,hu,yiM hl _ h⟩
theorem fnJ_ok{G:List (Nat×Obj)}{f:FuncId}{fn:Func}{ats:List Sh}{rts:List Ty}(hm:P.follows .mixedOrders=true)(hτ:TEok P τ)(hΓ:∀B,GB G B->NoJ B.S0->CTok P Γ B)(hGj:(G.all fun p=>!isJ p.2)=true)(hA:∀a:zbT (ats.flatMap Sh.tys),(putL ats (zmD _ a)).1.all svNJ=true)(hf:P.funcs[f]? = some fn)(hfn:IsFn P f)(hl:bW ats.length fn.ntmps=true):PCok P G f ⟨ats,rts,fnP τ Γ η fn ats rts,false⟩:=by refine⟨hfn,fun S0 w0 us a y hG hS ha hy=>?_⟩;have hG':GS G (cut S0):=fun p hp=>cut_at (hG p hp) (by simpa using bK.1 hGj p hp);exact(xbR hm hτ (hΓ _ (yuU hG' (xeQ hS)) cut_noJ) hf hl (xeQ hS) (xaK (hA a) ha) hy).mono fun _ _ h=>⟨h.1,h.2.imp fun _ h=>⟨h.1,xfA cut_gr h.2,fun h=>by cases h⟩⟩
theorem ywF:∀(us:LV) (pre:LV),zxD (fun t=>(pre++us).getD t undef) pre.length us.length=us
 |[],_=>rfl|u::us,pre=>by have h1:=ywF us (pre++[u]);simp only[aD,List.length_singleton,List.append_assoc,List.singleton_append]at h1;simp only[aS,zxD,h1];congr 1;simp
theorem xfQ(us:LV):zxD (fun t=>us.getD t undef) 0 us.length=us:=ywF us []
theorem resV1_eq(us:LV):(if h:us.toArray.size=1 then us.toArray[0]else .tuple us.toArray)=zyB us:=by
 match us with
 |[]=>rfl|[u]=>rfl|u::u'::us=>rw[dif_neg (by simp)];rfl
theorem yqL:∀{l:List ResultVar} {xs:List SV},yeF τ σ l=some xs->xs.length=l.length
 |[],_,h=>by cases h;rfl
 |v::l,_,h=>by
  unfold yeF at h;split at h
  ·rename_i h2;cases h;simp[yqL h2]
  ·cases h
theorem yuC{f:FuncId}{fn:Func}{c:Code}{N0 nr:Nat}{outs:List (Option Nat×Shp)}{S0:Mem}{w0:World}{us:LV}{E0:List EI}{L0:List Res}{σ0:St}{d:DS outs}{rn:(Ex->St->Option (DS outs))->Option (DS outs)}(hτ:TEok P τ)(hf:P.funcs[f]? = some fn)(hb:fn.body=some c)(hl:us.length<=fn.ntmps)(hr:aG fn.results.toList.length nr=true) (R:RelV ⟨S0,zbD L0,w0⟩ S0 E0 L0 σ0 (fun t=>us.getD t undef) w0) (hg:Rel fn.ntmps ⟨S0,zbD L0,w0⟩ S0 E0 L0 σ0 (argm us 0) w0->Good P N0 fn.ntmps ⟨S0,zbD L0,w0⟩ c rn S0 E0 (argm us 0) w0) (hy:rn (finS τ fn N0 outs)=some d):Calls P f us.toArray w0 fun e w'=>∃v,e = .returned v/\∃S' E' L' σo V',(∀{γ:Type} (k:Ex->St->Option γ),out [] outs d k=k .normal σo)/\Mem.le S0 S'/\Pin N0 E0 E'/\RelV ⟨S0,zbD L0,w0⟩ S' E' L' σo V' w'/\Ver0 σo.hp/\N0<=σo.hp.length/\v=zyB (zxD V' 0 nr):=by
 refine enter hf hb rfl (Nat.ble_eq_true_of_le hl) ?_;have R0:Rel fn.ntmps ⟨S0,zbD L0,w0⟩ S0 E0 L0 σ0 (argm us 0) w0:=by
  refine⟨R.hs,R.lL,R.lE,R.obj,fun t=>?_⟩;have h1:=R.sl t;show VR S0 E0 (lkS σ0.sl t) (bif cM t fn.ntmps then look (argm us 0) t else undef);cases ht:cM t fn.ntmps with
  |true=>have:=ypX us 0 t;rw[zI (bS t)]at this;rw[zE,this];exact h1|false=>
   rw[zmU]at ht;have h2:=of_decide_eq_false ht;rw[zF];have h3:us.getD t undef=undef:=by rw[List.getD_eq_getElem?_getD,List.getElem?_eq_none (by omega)];rfl
   rw[<-h3];exact h1
 refine hg R0 (finS τ fn N0 outs) d _ hy fun e σ' S' E' L' m' w' h1 hS hP _ R1=>?_
 have key:∀(_:(match yeF τ σ' fn.results.toList with
   |some l=>inj N0 outs .normal ⟨argS 0 l,σ'.hp⟩|none=>none)=some d),(fr fn.ntmps m').defers=[]/\∃v,(results fn (fr fn.ntmps m').tmps).run P w' = .ok v w'/\∃v',Ending.returned v = .returned v'/\∃S' E' L' σo V',(∀{γ:Type} (k:Ex->St->Option γ),out [] outs d k=k .normal σo)/\Mem.le S0 S'/\Pin N0 E0 E'/\RelV ⟨S0,zbD L0,w0⟩ S' E' L' σo V' w'/\Ver0 σo.hp/\N0<=σo.hp.length/\v'=zyB (zxD V' 0 nr):=fun h1=>by
  split at h1
  ·rename_i l hl1;obtain⟨vs,h3,h4⟩:=ygJ (P:=P) hτ R1 hl1
   have R2:RelV ⟨S0,zbD L0,w0⟩ S' E' L' ⟨argS 0 l,σ'.hp⟩ (fun t=>vs.getD t undef) w':=⟨R1.hs,R1.lL,R1.lE,R1.obj,fun t=>by
    have:=ynL 0 t h3;rw[zI (bS t)]at this
    exact this⟩
   obtain⟨S2,E2,L2,σ2,hS2,hP2,R3,hv,hn,h5⟩:=ybP R2 (kp:=[]) (fun _ _ _ _=>trivial) h1;refine⟨rfl,zyB vs,?_,zyB vs,rfl,S2,E2,L2,σ2,_,h5,Mem.le_trans hS hS2,hP.trans hP2,R3,hv,hn,?_⟩
   ·rw[zvC,eH];simp only[Sem.run_bind,Sem.run_map,h4,Result.andThen_ok,Sem.run_pure,<-resV1_eq]
   ·have h6:vs.length=nr:=by rw[<-h3.len,yqL hl1];exact aA hr
    rw[<-h6,xfQ]
  ·cases h1
 cases e with
 |normal=>obtain⟨h2,v,h3,v',h4,h5⟩:=key h1;cases h4;exact⟨h2,v,h3,v,rfl,h5⟩
 |ret=>obtain⟨h2,v,h3,v',h4,h5⟩:=key h1;cases h4;exact⟨h2,v,h3,v,rfl,h5⟩
 |exit i=>cases h1
theorem ysN{f:FuncId}{fn:Func}{c:Code}{N0 nr:Nat}{outs:List (Option Nat×Shp)}{S0:Mem}{w0:World}{us:LV}{E0:List EI}{L0:List Res}{σ0:St}{d:DS outs}(hm:P.follows .mixedOrders=true)(hτ:TEok P τ)(hΓ:CTok P Γ ⟨S0,zbD L0,w0⟩)(hf:P.funcs[f]? = some fn)(hb:fn.body=some c)(hl:us.length<=fn.ntmps)(hr:aG fn.results.toList.length nr=true) (R:RelV ⟨S0,zbD L0,w0⟩ S0 E0 L0 σ0 (fun t=>us.getD t undef) w0) (hy:run N0 fn.ntmps τ Γ η c σ0 (finS τ fn N0 outs)=some d):Calls P f us.toArray w0 fun e w'=>∃v,e = .returned v/\∃S' E' L' σo V',(∀{γ:Type} (k:Ex->St->Option γ),out [] outs d k=k .normal σo)/\Mem.le S0 S'/\Pin N0 E0 E'/\RelV ⟨S0,zbD L0,w0⟩ S' E' L' σo V' w'/\Ver0 σo.hp/\N0<=σo.hp.length/\v=zyB (zxD V' 0 nr):=
 yuC hτ hf hb hl hr R (fun R0=>zuS hm hτ hΓ c R0) hy
theorem fnS_ok{G:List (Nat×Obj)}{f:FuncId}{fn:Func}{I:Shp}{nr:Nat}{outs:List (Option Nat×Shp)}(hm:P.follows .mixedOrders=true)(hτ:TEok P τ)(hΓ:∀B,GB G B->CTok P Γ B)(hf:P.funcs[f]? = some fn)(hfn:IsFn P f)(hl:bW I.sl.length fn.ntmps=true)(hr:aG fn.results.toList.length nr=true):SCok P G f ⟨I,nr,outs,fnS τ Γ η fn I outs⟩:=by
 refine⟨hfn,fun S0 w0 us E0 L0 a d hG hul R hy=>?_⟩;have hy:fnS τ Γ η fn I outs a=some d:=hy;have hul:us.length=I.sl.length:=hul;unfold fnS at hy;split at hy
 ·cases hy
 ·rename_i c hb;exact ysN hm hτ (hΓ _ (gb_in hG R.hs)) hf hb (by rw[hul];exact bB hl) hr R hy
end
def PL(P:Program)(G:List (Nat×Obj)):List (Nat×PC)->Prop
 |[]=>True|x::l=>PCok P G x.1 x.2/\PL P G l
def SL(P:Program)(G:List (Nat×Obj)):List (Nat×SC)->Prop
 |[]=>True|x::l=>SCok P G x.1 x.2/\SL P G l
theorem PL.at{P:Program}{G:List (Nat×Obj)}:∀{l:List (Nat×PC)},PL P G l->∀f c,pcAt l f=some c->PCok P G f c
 |[],_,f,c,h=>by cases h
 |(d,x)::l,⟨h1,h2⟩,f,c,h=>by
  unfold pcAt at h;cases hb:aG d f with
  |true=>rw[hb]at h;cases h;rw[<-aA hb];exact h1
  |false=>rw[hb]at h;exact PL.at h2 f c h
theorem SL.at{P:Program}{G:List (Nat×Obj)}:∀{l:List (Nat×SC)},SL P G l->∀f c,c∈scAt l f->SCok P G f c
 |[],_,f,c,h=>by cases h
 |(d,x)::l,⟨h1,h2⟩,f,c,h=>by
  unfold scAt at h;cases hb:aG d f with
  |true=>
   rw[hb]at h;rcases aL.1 h with rfl|h
   ·rw[<-aA hb];exact h1
   ·exact SL.at h2 f c h
  |false=>rw[hb]at h;exact SL.at h2 f c h
theorem ctok{P:Program}{G:List (Nat×Obj)}{pc:List (Nat×PC)}{sc:List (Nat×SC)}{k:Bool}{fm:List (Nat×List FSh)}(h1:PL P G pc)(h2:SL P G sc)(hj:fmAt fm 999999999=none:=by rfl):∀B,GB G B->CTok P ⟨pc,sc,k,fm⟩ B:=fun B hG=>
 ⟨fun f c h=>⟨(h1.at f c h).fn,fun S w us a y hA=>(h1.at f c h).ok S w us a y (hA.gs hG)⟩,fun f c h=>⟨(h2.at f c h).fn,fun S w us E L a d hA=>(h2.at f c h).ok S w us E L a d (hA.gs hG)⟩,fun h=>by unfold jnOf at h;rw[show(CT.mk pc sc k fm).fm=fm from rfl,hj]at h;cases h⟩
theorem ctokJ{P:Program}{G:List (Nat×Obj)}{pc:List (Nat×PC)}{sc:List (Nat×SC)}{k:Bool}{fm:List (Nat×List FSh)}(h1:PL P G pc)(h2:SL P G sc):∀B,GB G B->NoJ B.S0->CTok P ⟨pc,sc,k,fm⟩ B:=fun _B hG hJ=>
 ⟨fun f c h=>⟨(h1.at f c h).fn,fun S w us a y hA=>(h1.at f c h).ok S w us a y (hA.gs hG)⟩,fun f c h=>⟨(h2.at f c h).fn,fun S w us E L a d hA=>(h2.at f c h).ok S w us E L a d (hA.gs hG)⟩,fun _=>hJ⟩
theorem xdN{P:Program}{G:List (Nat×Obj)}{τ:TE}{Γ:CT}{η:HT}{f:FuncId}{fn:Func}{c:PC}(hm:P.follows .mixedOrders=true)(hτ:TEok P τ)(hΓ:∀B,GB G B->CTok P Γ B)(hf:P.funcs[f]? = some fn)(hfn:IsFn P f)(hl:bW c.ash.length fn.ntmps=true)(hc:c.cl=false)(he:fnP τ Γ η fn c.ash c.rts=c.p):PCok P G f c:=by have h:=fn_ok (η:=η) (rts:=c.rts) hm hτ hΓ hf hfn hl;rw[he,<-hc]at h;exact h
theorem fn_pcJ{P:Program}{G:List (Nat×Obj)}{τ:TE}{Γ:CT}{η:HT}{f:FuncId}{fn:Func}{c:PC}(hm:P.follows .mixedOrders=true)(hτ:TEok P τ)(hΓ:∀B,GB G B->NoJ B.S0->CTok P Γ B)(hGj:(G.all fun p=>!isJ p.2)=true)(hA:∀a:zbT (c.ash.flatMap Sh.tys),(putL c.ash (zmD _ a)).1.all svNJ=true)(hf:P.funcs[f]? = some fn)(hfn:IsFn P f)(hl:bW c.ash.length fn.ntmps=true)(hc:c.cl=false)(he:fnP τ Γ η fn c.ash c.rts=c.p):PCok P G f c:=by have h:=fnJ_ok (η:=η) (rts:=c.rts) hm hτ hΓ hGj hA hf hfn hl;rw[he,<-hc]at h;exact h
theorem xbM{P:Program}{G:List (Nat×Obj)}{τ:TE}{Γ:CT}{η:HT}{f:FuncId}{fn:Func}{c:SC}(hm:P.follows .mixedOrders=true)(hτ:TEok P τ)(hΓ:∀B,GB G B->CTok P Γ B)(hf:P.funcs[f]? = some fn)(hfn:IsFn P f)(hl:bW c.I.sl.length fn.ntmps=true)(hr:aG fn.results.toList.length c.nr=true)(he:fnS τ Γ η fn c.I c.outs=c.p):SCok P G f c:=by have h:=fnS_ok (η:=η) (outs:=c.outs) hm hτ hΓ hf hfn hl hr;rw[he]at h;exact h
def keqS(x y:Bs):Bool:=x==y
def kltS(x y:Bs):Bool:=Op.bytesLess x y
abbrev hS:Sh:=.h .s
abbrev hI:Sh:=.h (.i .i64)
abbrev hB:Sh:=.h .b
def scal:Ty->Bool
 |.i _=>true|.b=>true|.s=>true|_=>false
def encV:(t:Ty)->den t->Value
 |.i k,x=>.int k (toI k x)|.b,x=>.bool x|.s,x=>str x|_,_=>undef
def encL:(l:List Ty)->zbT l->LV
 |[],_=>[]|[t],x=>[encV t x]|t::t'::l,x=>encV t x.1::encL (t'::l) x.2
def encR(l:List Ty)(x:zbT l):Value:=match l,x with
 |[t],x=>encV t x|l,x=>.tuple (encL l x).toArray
section
variable {S:Mem}{E:List EI}{P:Program}{G:List (Nat×Obj)}{f:FuncId}
theorem ylC:∀{t:Ty} {x:den t} {u:Value},scal t=true->VR S E (svOf t x) u->u=encV t x
 |.i k,x,u,_,h=>by have h:[u]=[Value.int k (toI k x)]:=h;exact(List.cons.inj h).1
 |.b,x,u,_,h=>by have h:[u]=[Value.bool x]:=h;exact(List.cons.inj h).1
 |.s,x,u,_,h=>by have h:[u]=[str x]:=h;exact(List.cons.inj h).1
theorem ynA:∀{t:Ty} {x:den t},scal t=true->rep1 t S (encV t x) x
 |.i _,_,_=>rfl|.b,_,_=>rfl|.s,_,_=>rfl
theorem yuW:∀{l:List Ty} {x:zbT l},l.all scal=true->repA S l (encL l x) x
 |[],_,_=>rfl|[t],x,h=>⟨_,rfl,ynA (by simpa using h)⟩|t::t'::l,x,h=>⟨_,_,rfl,ynA (by simp at h;exact h.1),yuW (by simp at h ⊢;exact h.2)⟩
theorem ymG{l:List Ty}{x:zbT l}(h:l.all scal=true):repR S l (encR l x) x:=match l,x,h with
 |[t],x,h=>show rep1 t S (encV t x) x from ynA (by simpa using h)
 |[],_,_=>⟨[],rfl,rfl⟩|t::t'::l,x,h=>⟨_,rfl,yuW h⟩
theorem pc1{t1:Ty}{rts:List Ty}{p:den t1->Option (zbT rts)}(h1:scal t1=true)(hr:rts.all scal=true)(hfn:IsFn P f) (h:∀S w x y,GS G S->Sub S w->p x=some y->Calls P f #[encV t1 x] w fun e w'=>e = .returned (encR rts y)/\Ext w w'):
  PCok P G f ⟨[.h t1],rts,p,false⟩:=by
 refine⟨hfn,fun S0 w0 us x y hG hS ha hy=>?_⟩;have ha:A2 (VR S0 []) [svOf t1 x] us:=ha;cases ha with
 |cons q1 q2=>cases q2;rw[ylC h1 q1];exact(h S0 w0 x y hG hS hy).mono fun e w' ⟨he,hx⟩=>⟨hx,_,he,ymG hr,fun h=>by cases h⟩
theorem pc2{t1 t2:Ty}{rts:List Ty}{p:den t1->den t2->Option (zbT rts)}(h1:scal t1=true)(h2:scal t2=true)(hr:rts.all scal=true)(hfn:IsFn P f) (h:∀S w x1 x2 y,GS G S->Sub S w->p x1 x2=some y->Calls P f #[encV t1 x1,encV t2 x2] w fun e w'=>e = .returned (encR rts y)/\Ext w w'):
  PCok P G f ⟨[.h t1,.h t2],rts,fun(x:den t1×den t2)=>p x.1 x.2,false⟩:=by
 refine⟨hfn,fun S0 w0 us (x:den t1×den t2) y hG hS ha hy=>?_⟩;have ha:A2 (VR S0 []) [svOf t1 x.1,svOf t2 x.2] us:=ha;cases ha with
 |cons q1 q2=>
  cases q2 with
  |cons q3 q4=>cases q4;rw[ylC h1 q1,ylC h2 q3];exact(h S0 w0 x.1 x.2 y hG hS hy).mono fun e w' ⟨he,hx⟩=>⟨hx,_,he,ymG hr,fun h=>by cases h⟩
end
end Go.Proofs.YtopanhneegpgcaaGreatDoor.Am
namespace Go.Proofs.YtopanhneegpgcaaGreatDoor
open Go Go.RowKit
def decF:Nat->Nat->Bs
 |0,_=>[]|f+1,u=>bif cM u 10 then [UInt8.ofNat (48+u)]else decF f (u/10)++[UInt8.ofNat (48+u%10)]
theorem ynG:∀(f u:Nat),u<10^f->0<f->decF f u=Lib.decDigits u
 |0,_,_,h=>absurd h (Nat.lt_irrefl 0)|f+1,u,h,_=>by
  rw[Lib.decDigits];unfold decF;by_cases hu:u<10
  ·rw[show cM u 10=true by rw[zmU];simpa using hu,dif_pos hu];rfl
  ·rw[show cM u 10=false by rw[zmU];simpa using hu,dif_neg hu];have hf:0<f:=by
    rcases eF f with rfl|hf
    ·rw[aU,Nat.pow_one]at h;omega
    ·exact hf
   rw[ynG f (u/10) (by rw[Nat.pow_succ]at h;omega) hf];rfl
def itoaF(n:Int):Bs:=bif decide (n<0)then 45::decF 20 n.natAbs else decF 20 n.toNat
def ysL(n:Int):Option Bs:=bif decide (-9223372036854775808<=n)&&decide (n<=9223372036854775807)then some (itoaF n)else none
theorem itoaF_eq{n:Int}(h0:-9223372036854775808<=n)(h1:n<=9223372036854775807):itoaF n=Lib.itoa n:=by
 unfold itoaF Lib.itoa;by_cases hn:n<0
 ·rw[zI hn,zA hn,zE,ynG _ _ (by omega) (by omega)]
 ·rw[zH hn,zB hn,zF,ynG _ _ (by omega) (by omega)]
theorem GV.tab {S : Mem} {w : World} (h : GV S) (hS : Sub S w) : Lib.TabIs aB w "internal/strconv.uint64pow10" .u64 Lib.pow10Tab := by
 obtain⟨t,fz,h⟩:=h.tb;have hg : Tryz.prog.globalNamed "internal/strconv.uint64pow10" = some 3 := by kernel_rfl
 unfold Lib.TabIs World.var?;rw[hg,Option.bind_some,hS _ _ h];rfl
theorem Itoa_c{S:Mem}{w:World}(hS:Sub S w)(hG:GV S){x0:Int}{r:Bs}(hF:ysL x0=some r):Calls aB 68 #[.int .i64 x0] w fun e w'=>e = .returned (str r)/\Ext w w':=by unfold ysL at hF;obtain⟨h,hF⟩:=Am.zaG hF;simp only[aH,zD]at h;cases hF;refine(Tryz.strconv_Itoa x0 h.1 h.2 w (hG.tab hS)).mono ?_;rintro _ w' ⟨rfl,k,os,rfl⟩;rw[itoaF_eq h.1 h.2];exact⟨rfl,⟨rfl,rfl,rfl,by show w.heap.size<=(w.heap++os).size;rw[Array.size_append];omega,fun j hj=>by show(w.heap++os)[j]? = _;rw[Array.getElem?_append_left hj]⟩⟩
def yjS(s cs:Bs):Option Bs:=bif decide (s.length<=9223372036854775807)&&decide (cs.length<4294967281)&&cs.all (fun b=>decide (b.toNat<128))then some (Lib.trimS s cs)else none
theorem Trim_c{S:Mem}{w:World}(_:Sub S w){x0 x1 r:Bs}(hF:yjS x0 x1=some r):Calls aB 164 #[str x0,str x1] w fun e w'=>e = .returned (str r)/\Ext w w':=by
 unfold yjS at hF;obtain⟨h,hF⟩:=Am.zaG hF;simp only[aH,zD]at h;cases hF
 exact Any.strings_Trim_laid Tryz.lays160 (by kernel_rfl) ⟨x0.toArray⟩ ⟨x1.toArray⟩ w (by rw[zjO];exact h.1.1) (by rw[zjO];exact h.1.2) (fun j b hj=>by
  have:=bK.1 h.2 b (List.mem_of_getElem? hj)
  simpa using this)
def cutP(s sep:Bs):Option (Bs×Bs×Bool):=bif decide (s.length<4294967281)then some (Lib.cut s sep)else none
theorem Cut_c{S:Mem}{w:World}(hS:Sub S w)(hG:GV S){x0 x1:Bs}{r:Bs×Bs×Bool}(hF:cutP x0 x1=some r):Calls aB 59 #[str x0,str x1] w fun e w'=>e = .returned (.tuple #[str (r.1),str (r.2.1),.bool (r.2.2)])/\Ext w w':=by unfold cutP at hF;obtain⟨h,hF⟩:=Am.zaG hF;simp only[zD]at h;cases hF;obtain⟨m,hm⟩:=hG.cell hS;refine(Tryz.strings_Cut ⟨x0.toArray⟩ ⟨x1.toArray⟩ m w (by rw[zjO];exact h) hm).mono ?_;rintro _ w' ⟨rfl,n,rfl⟩;exact⟨rfl,rfl,rfl,rfl,aK _,fun _ _=>rfl⟩
def atoiP(s:Bs):Option (Int×Bool):=bif decide (s.length<=9223372036854775806)then(match Lib.atoiAll s with
 |.ok v=>some (v,false)|_=>none)else none
theorem Atoi_c{S:Mem}{w:World}(_:Sub S w){x0:Bs}{r:Int×Bool}(hF:atoiP x0=some r):
  r.2=false/\Calls aB 165 #[str x0] w fun e w'=>e = .returned (.tuple #[.int .i64 r.1,.nilIface])/\Ext w w':=by
 unfold atoiP at hF;obtain⟨h,hF⟩:=Am.zaG hF;simp only[zD]at h;split at hF
 ·rename_i v hv;cases hF;refine⟨rfl,(Tryz.strconv_Atoi_ok ⟨x0.toArray⟩ (by rw[zjO];exact h) v hv w).mono ?_⟩;rintro _ w' ⟨rfl,rfl|⟨t,rfl⟩⟩
  ·exact⟨rfl,Ext.refl _⟩
  ·exact⟨rfl,⟨rfl,rfl,rfl,by rw[Lib.bytesWorld_size];omega,fun j hj=>Lib.bytesWorld_at_old w _ _ j hj⟩⟩
 ·cases hF
section
variable {α β γ σ:Type}
theorem ymM(p:UInt8->Bool)(h:(List.range 256).all (fun n=>p (UInt8.ofNat n))=true)(b:UInt8):p b=true:=by have:=bK.1 h b.toNat (by have:=b.toNat_lt;simp only[List.mem_range];omega);simpa using this
theorem zaA(x:α)(f:α->Option β):(some x).bind f=f x:=rfl
theorem bind_ok{o:Option α}{a:α}{f:α->Option β}(h:o=some a):o.bind f=f a:=by rw[h];rfl
theorem zsE{x:Int}(h:-9223372036854775808<=x)(h2:x<=9223372036854775807):w64 x=x:=wr64 h (by omega)
theorem zhZ{l:List α}{i:Nat}{j:Int}(hj:j=(i:Int))(h:i<l.length):idx l j=some l[i]:=by subst hj;rw[idx_nat];exact aJ h
theorem chk_ok{c:Bool}(h:c=true):chk c=some ():=by subst h;rfl
theorem zfQ{p:Prop}[Decidable p]{a b:α}(h:p):(bif decide p then a else b)=a:=by simp[h]
theorem zgE{p:Prop}[Decidable p]{a b:α}(h:¬p):(bif decide p then a else b)=b:=by simp[h]
theorem iter_run{body:σ->Option (σ⊕β)}(st:Nat->σ)(n:Nat)(hn:n<1099511627776)(b:β)(h:∀k,k<n->body (st k)=some (.inl (st (k+1))))(he:body (st n)=some (.inr b)):iter body (st 0)=some b:=by
 have key:∀j k,k<=n->n-k<j->zrW body j (st k)=some b:=by
  intro j;induction j with
  |zero=>intro k _ h;omega|succ j ih=>
   intro k hk hj;by_cases e:k=n
   ·subst e;exact zeS he
   ·rw[zdP (h k (by omega))];exact ih (k+1) (by omega) (by omega)
 exact key FU 0 (by omega) (by unfold FU;omega)
end
theorem decD_rec(u:Nat):Lib.decDigits u=if u<10 then [UInt8.ofNat (48+u)]else Lib.decDigits (u/10)++[UInt8.ofNat (48+u%10)]:=by
 rw[Lib.decDigits];by_cases h:u<10
 ·rw[dif_pos h,zI h]
 ·rw[dif_neg h,zH h]
theorem ymL:∀(k u:Nat),0<k->u<10^k->(Lib.decDigits u).length<=k
 |0,_,h,_=>absurd h (Nat.lt_irrefl 0)|k+1,u,_,h=>by
  rw[decD_rec];by_cases hu:u<10
  ·rw[zI hu];simp
  ·rw[zH hu];have hk:0<k:=by
    rcases eF k with rfl|hk
    ·rw[aU,Nat.pow_one]at h;omega
    ·exact hk
   have:=ymL k (u/10) hk (by rw[Nat.pow_succ]at h;omega);simp;omega
theorem yoA(u:Nat)(hu:u<9223372036854775808):ysL (u:Int)=some (Lib.decDigits u):=by unfold ysL itoaF;rw[zA (show(-9223372036854775808:Int)<=(u:Int) by omega),zA (show(u:Int)<=9223372036854775807 by omega)];simp only[Bool.and_self,zE];rw[zB (show ¬(u:Int)<0 by omega)];simp only[zF,Int.toNat_natCast];rw[ynG 20 u (by omega) (by decide)]
theorem yqJ{p:UInt8->Bool}:∀{l:Bs},(∀b∈l,p b=true)->l.dropWhile p=[]
 |[],_=>rfl|b::l,h=>by rw[fK,zI (h b aO)];exact yqJ fun b hb=>h b (aN _ hb)
def zkN:List Bs->Bs
 |[]=>[]|t::ts=>Lib.decDigits t.length++58::(t++zkN ts)
def digB(b:UInt8):Bool:=decide (48<=b.toNat)&&decide (b.toNat<=57)
theorem yjV{p:UInt8->Bool}:∀{l:Bs},l.dropWhile p=[]->∀b∈l,p b=true
 |[],_,b,hb=>by cases hb
 |c::l,h,b,hb=>by
  rw[fK]at h;split at h
  ·rename_i hc;rcases aL.1 hb with rfl|hb
   ·exact hc
   ·exact yjV h b hb
  ·cases h
theorem yiQ{p:UInt8->Bool}:∀{l:Bs} {b:UInt8},b∈l->p b=false->b∈l.dropWhile p
 |c::l,b,hb,hp=>by
  rw[fK];split
  ·rename_i hc;rcases aL.1 hb with rfl|hb
   ·rw[hp]at hc;cases hc
   ·exact yiQ hb hp
  ·exact hb
theorem ypS{l cs:Bs}:Lib.trimS l cs=[]↔∀b∈l,cs.contains b=true:=by
 unfold Lib.trimS Lib.trimLeftS Lib.trimRightS;constructor
 ·intro h b hb;cases hc:cs.contains b with
  |true=>rfl|false=>have h1:=yiQ (gY.2 hb) hc;have h2:=yjV h b (gY.2 h1);rw[hc]at h2;cases h2
 ·intro h;rw[yqJ (l:=l.reverse) fun b hb=>h b (gY.1 hb)];rfl
section
attribute [local irreducible] wpList wpT Code.wp Calls Code.rounds
variable {S:Mem}{w:World}
theorem bu1:Tryz.prog.underlying 101=some (.pointer 104):=by kernel_rfl
theorem bu2:Tryz.prog.underlying 234=some .unsafePointer:=by kernel_rfl
theorem bi1:(Tryz.prog.info? 104).map (·.size)=some 2:=by kernel_rfl
theorem bl1:liesAt aB Tryz.prog.depth 104 (2/Tryz.prog.cellsOf 104) 0 104 1=true:=by kernel_rfl
theorem bf0:xdS aB 104 0 0:=fun _ _ _=>by kernel_rfl
theorem bf1:xdS aB 104 1 1:=fun _ _ _=>by kernel_rfl
theorem bto:TOne aB 101:=⟨fun _=>by kernel_rfl,fun _=>by kernel_rfl⟩
theorem bto2:TOne aB 102:=⟨fun _=>by kernel_rfl,fun _=>by kernel_rfl⟩
theorem btz:TSz aB 101 1:=fun _=>by kernel_rfl
theorem bnoEsc(x:Value)(w:World):(callFunc 241 [x].toArray).run aB w = .ok (.value x) w:=by have h:=run_callFunc_extern (P:=aB) (w:=w) (args:=#[x]) Tryz.func241 (by kernel_rfl) (by kernel_rfl) (by kernel_rfl) (e:=Extern.AbiNoEscape.same) (by kernel_rfl);show(callFunc 241 #[x]).run aB w=_;rw[h,Lib.run_noEscape];rfl
def zkX(x0:Bs):Option Bs:=some x0
section
variable {P:Program}{w:World}{B:Bas}{S:Mem}{L:List Res}{e:Operand->Value}{dst:Option Tmp}{g:Option (Nat×Bool)}{ty:TypeId}{pos:String}{aft:Array Edge}{x y:Operand}{T T1 T2 T':TypeId}{a:Addr}
theorem r_eqPN(hu:P.underlying T=some (.pointer T1))(hx:e x = .pointer none)(hy:e y = .pointer none):(execOp e ⟨dst,.binOp .eql T x y T',ty,pos,aft,g⟩).run P w = .ok (.value (.bool true)) w:=by
 have h:(Op.equal T (.pointer none) (.pointer none)).run P w = .ok true w:=by
  have h:∀d,(Op.equalIn (d+1) T (.pointer none) (.pointer none)).run P w = .ok true w:=fun d=>by simp[Op.equalIn,Go.underlying,hu]
  exact h 9999
 simp[execOp,eqGuard,binOp,hx,hy,h]
theorem r_eqPS(hu:P.underlying T=some (.pointer T1))(hx:e x = .pointer (some a))(hy:e y = .pointer none):(execOp e ⟨dst,.binOp .eql T x y T',ty,pos,aft,g⟩).run P w = .ok (.value (.bool false)) w:=by
 have h:(Op.equal T (.pointer (some a)) (.pointer none)).run P w = .ok false w:=by
  have h:∀d,(Op.equalIn (d+1) T (.pointer (some a)) (.pointer none)).run P w = .ok false w:=fun d=>by simp[Op.equalIn,Go.underlying,hu]
  exact h 9999
 simp[execOp,eqGuard,binOp,hx,hy,h]
theorem r_nePP{j:TypeInfo}(hu:P.underlying T=some (.pointer T1))(hj:P.info? T1=some j)(hx:e x = .pointer (some a))(hy:e y = .pointer (some a)):(execOp e ⟨dst,.binOp .neq T x y T',ty,pos,aft,g⟩).run P w = .ok (.value (.bool false)) w:=by have h:=Lib.run_neq_ptr_same (P:=P) w a hu hj;simp[execOp,eqGuard,hx,hy,h]
end
theorem ybY{b0_:Nat}{x0:Bs}{pv1:Value}{pcs1 prs1:LV}{pa1:Value}(H:HS ⟨S,zbD [.blk b0_ ([pa1]++([pv1])) 104,.osl (pv1) (x0).length 1 pcs1 prs1 5],w⟩ S w [.blk b0_ ([pa1]++([pv1])) 104,.osl (pv1) (x0).length 1 pcs1 prs1 5]) (pg1:RL S pcs1 x0) (pg2:BA b0_ pa1) {r:Bs} (hF:zkX x0=some r):Calls aB 167 #[.pointer (some ⟨b0_,0,none⟩)] w fun e w'=>∃(S2:Mem) (pv2:Value) (pcs2 prs2:LV) (pa2:Value),e = .returned (.tuple #[])/\HS ⟨S,zbD [.blk b0_ ([pa1]++([pv1])) 104,.osl (pv1) (x0).length 1 pcs1 prs1 5],w⟩ S2 w' [.blk b0_ ([pa2]++([pv2])) 104,.osl (pv2) (r).length 1 pcs2 prs2 5]/\RL S2 pcs2 r/\BA b0_ pa2:=by
 obtain rfl:=osi hF;obtain⟨j,hj,hjs⟩:=Option.map_eq_some_iff.1 bi1;have hblk:w.heap[b0_]? = some (.cells ([pa1]++([pv1])).toArray 104 (0,0)):=H.own 0 _ rfl;have hsh:w.shape? (⟨b0_,0,none⟩:Addr).block=some (104,2):=by simp[World.shape?,hblk]
 refine enter (n:=20) Tryz.func167 rfl rfl rfl ?_;rcases pg2 with rfl|rfl
 ·refine wp_seq_k ?_;intro K1 hK1;refine wp_region_lit ?_;refine zeW (zpT (v:=.pointer (some ⟨b0_,0,none⟩)) rfl) ?_;refine zeW (zoV rfl) ?_;refine zeW (zqQ bf0 rfl) ?_;refine zeW (zuB (v:=.pointer none) bto H rfl (k:=0) rfl rfl) ?_;refine zeW (r_eqPN bu1 rfl rfl) ?_;refine wpList_nil ?_;refine zvK ?_;refine hK1 _ _ ?_;refine c_true rfl rfl ?_;refine wp_region_lit ?_;refine zeW (zpT (v:=.pointer (some ⟨b0_,0,none⟩)) rfl) ?_;refine zeW (zpT (v:=.pointer (some ⟨b0_,0,none⟩)) rfl) ?_
  refine zeW (c:=.pointer (some ⟨b0_,0,none⟩)) (by
   have h:=Lib.run_to_unsafe (P:=aB) w ⟨b0_,0,none⟩ bu1 bu2 hj (by rw[hjs];decide) hsh (Nat.zero_lt_succ 1);simp only[execOp]
   exact(by rw[Sem.run_bind];erw [h];rfl)) ?_
  refine p_callv (l:=[.pointer (some ⟨b0_,0,none⟩)]) rfl (bnoEsc _ _) ?_
  refine zeW (c:=.pointer (some ⟨b0_,0,none⟩)) (by
   have h:=Lib.run_from_unsafe (P:=aB) w ⟨b0_,0,none⟩ bu2 bu1 hj hsh bl1;simp only[execOp]
   exact(by rw[Sem.run_bind];erw [h];rfl)) ?_
  refine zeW (zoV rfl) ?_;refine zeW (zqQ bf0 rfl) ?_;refine p_ofs (ynQ (k:=0) (v:=.pointer (some ⟨b0_,0,none⟩)) (l:=[.pointer (some ⟨b0_,0,none⟩)]) btz H rfl rfl rfl (cells_one rfl) rfl (fun u hu=>bK.1 (rfl:([Value.pointer (some ⟨b0_,0,none⟩)]).all (·.oneCell')=true) u hu) rfl) ?_;clear H;intro w2 H;refine wpList_nil ?_;refine e_00 rfl ?_;exact⟨S,pv1,pcs1,prs1,.pointer (some ⟨b0_,0,none⟩),rfl,H,pg1,.inr rfl⟩
 ·refine wp_seq_k ?_;intro K1 hK1;refine wp_region_lit ?_;refine zeW (zpT (v:=.pointer (some ⟨b0_,0,none⟩)) rfl) ?_;refine zeW (zoV rfl) ?_;refine zeW (zqQ bf0 rfl) ?_;refine zeW (zuB (v:=.pointer (some ⟨b0_,0,none⟩)) bto H rfl (k:=0) rfl rfl) ?_;refine zeW (r_eqPS bu1 rfl rfl) ?_;refine wpList_nil ?_;refine zvK ?_;refine hK1 _ _ ?_;refine xfG rfl rfl ?_;refine wp_seq_k ?_;intro K2 hK2;refine wp_region_lit ?_;refine zeW (zpT (v:=.pointer (some ⟨b0_,0,none⟩)) rfl) ?_;refine zeW (zoV rfl) ?_;refine zeW (zqQ bf0 rfl) ?_;refine zeW (zuB (v:=.pointer (some ⟨b0_,0,none⟩)) bto H rfl (k:=0) rfl rfl) ?_;refine zeW (zpT (v:=.pointer (some ⟨b0_,0,none⟩)) rfl) ?_;refine zeW (r_nePP bu1 hj rfl rfl) ?_;refine wpList_nil ?_;refine zvK ?_;refine hK2 _ _ ?_;refine xfG rfl rfl ?_;refine wp_skip ?_;refine e_00 rfl ?_;exact⟨S,pv1,pcs1,prs1,.pointer (some ⟨b0_,0,none⟩),rfl,H,pg1,.inr rfl⟩
theorem bus:Tryz.prog.underlying 102=some (.slice 5):=by kernel_rfl
theorem bup:Tryz.prog.underlying 179=some (.pointer 5):=by kernel_rfl
theorem buc:Tryz.prog.cellsOf 5=1:=by kernel_rfl
section
variable {P:Program}{w:World}{e:Operand->Value}{dst:Option Tmp}{g:Option (Nat×Bool)}{ty:TypeId}{pos:String}{aft:Array Edge}{x y:Operand}{T T1:TypeId}
theorem r_usd{r:Value}{v:Value}{w':World}(hx:e x=v)(h:(Builtin.unsafeSliceData_ #[T] ty #[v]).run P w = .ok r w'):(execOp e ⟨dst,.call ⟨.builtin .unsafeSliceData,#[x],#[T]⟩,ty,pos,aft,g⟩).run P w = .ok (.value r) w':=by simp[execOp,resolve,invoke,builtin,hx,h]
theorem r_ust{r:Value}{v u:Value}{w':World}(hx:e x=v)(hy:e y=u)(h:(Builtin.unsafeString_ #[T,T1] ty #[v,u]).run P w = .ok r w'):(execOp e ⟨dst,.call ⟨.builtin .unsafeString,#[x,y],#[T,T1]⟩,ty,pos,aft,g⟩).run P w = .ok (.value r) w':=by simp[execOp,resolve,invoke,builtin,hx,hy,h]
theorem stR_rm:∀{L:List Res} {k:Nat} {x:Res},rmR (stR L k x) k=rmR L k
 |[],_,_=>rfl|_::_,0,_=>rfl|y::l,k+1,x=>by simp only[stR,rmR,stR_rm (L:=l) (k:=k)]
end
theorem yfS{B:Bas}{S:Mem}{w:World}{L:List Res}{k1 k2 b:Nat}{a v:Value}{cs rs:LV}{xs:Bs}(H:HS B S w L)(h1:lkR L k1=some (.blk b ([a]++([v])) 104))(h2:lkR L k2=some (.osl v xs.length 1 cs rs 5))(h0:RL S cs xs)(hl:xs.length<=9223372036854775807):Calls aB 69 #[.pointer (some ⟨b,0,none⟩)] w fun e w'=>e = .returned (str xs)/\HS B S w' (rmR L k2):=by
 have hown:=H.own k2 _ h2;refine enter (n:=14) Tryz.func69 rfl rfl rfl ?_;rcases hown with⟨rfl,hn,hcs,hrs⟩|⟨gb,c,fz,rfl,hnc,hlen,hcap,hblk,hfz⟩
 ·obtain rfl:xs=[]:=aT hn;refine wp_seq_k ?_;intro K1 hK1;refine wp_region_lit ?_;refine zeW (zrV (v:=str ([]:Bs)) rfl) ?_;refine wpList_nil ?_;refine zvK ?_;refine hK1 _ _ ?_;refine wp_seq_k ?_;intro K2 hK2;apply zwS 10 (kinds []) rfl rfl (by kernel_rfl);intro vs;simp only[tkS,tkZ,drS,drZ];replace H:=H.drew;refine zkT (fun w hx=>zpT (v:=.pointer (some ⟨b,0,none⟩)) rfl) rfl rfl ?_;refine zkT (fun w hx=>zoV rfl) rfl rfl ?_;refine zkT (fun w hx=>zqQ bf1 rfl) rfl rfl ?_;refine zkT (fun w hx=>zuB (v:=.slice none 0 0) bto2 (H.ext hx) rfl h1 rfl) rfl rfl ?_;refine zkT (fun w hx=>r_usd (r:=.pointer none) rfl (Lib.run_unsafeSliceData_nil _ _ _ _ _)) rfl rfl ?_;refine zkT (fun w hx=>zpT (v:=.pointer (some ⟨b,0,none⟩)) rfl) rfl rfl ?_;refine zkT (fun w hx=>zoV rfl) rfl rfl ?_;refine zkT (fun w hx=>zqQ bf1 rfl) rfl rfl ?_;refine zkT (fun w hx=>zuB (v:=.slice none 0 0) bto2 (H.ext hx) rfl h1 rfl) rfl rfl ?_;refine zkT (fun w hx=>yzR bus rfl (H.ext hx) h2 rfl) rfl rfl ?_;refine t_nil (fun w2 hx hF hA=>?_);replace H:=H.ext hx;clear hx hF hA;refine zeW (c:=str ([]:Bs)) (r_ust rfl rfl (Lib.run_unsafeString_none _ _ _ _ _)) ?_;replace H:=H.rm k2;refine zeW (zrV (v:=str ([]:Bs)) rfl) ?_;refine wpList_nil ?_;refine ynP ?_;refine zvK ?_;refine hK2 _ _ ?_;refine wp_ret ?_;refine e_1 rfl (ysP (v:=str ([]:Bs)) rfl) ?_;exact⟨rfl,H⟩
 ·by_cases hc:c=0
  ·subst hc;obtain rfl:xs=[]:=aT (by omega);refine wp_seq_k ?_;intro K1 hK1;refine wp_region_lit ?_;refine zeW (zrV (v:=str ([]:Bs)) rfl) ?_;refine wpList_nil ?_;refine zvK ?_;refine hK1 _ _ ?_;refine wp_seq_k ?_;intro K2 hK2;apply zwS 10 (kinds [(4,.inr (fun v _=>∃a,v = .pointer (some a)))]) rfl rfl (by kernel_rfl);intro vs;simp only[tkS,tkZ,drS,drZ];replace H:=H.drew;refine zkT (fun w hx=>zpT (v:=.pointer (some ⟨b,0,none⟩)) rfl) rfl rfl ?_;refine zkT (fun w hx=>zoV rfl) rfl rfl ?_;refine zkT (fun w hx=>zqQ bf1 rfl) rfl rfl ?_;refine zkT (fun w hx=>zuB (v:=sl gb 0 0 0) bto2 (H.ext hx) rfl h1 rfl) rfl rfl ?_
   refine wpT_low (φ:=fun v _=>∃a,v = .pointer (some a)) rfl rfl (fun _ _ _ h _=>h) rfl (fun h=>by cases h) (fun w hx hF R hR=>by
    have hsh:w.shape? (⟨gb,0,none⟩:Addr).block=some (5,(cs++rs).toArray.size):=by
     have hb2:w.heap[gb]? = some (.cells (cs++rs).toArray 5 fz):=by rw[hx.block gb (lt_of_heap hblk)];exact hblk
     simp[World.shape?,hb2]
    have hrun:=Lib.run_unsafeSliceData_zero (P:=aB) w #[102] 179 5 bup ⟨gb,0,none⟩ 0 _ hsh;rw[zmS,r_usd rfl hrun,ymA]
    exact hR (.pointer (some ⟨w.heap.size,0,none⟩)) (w.alloc (.view ⟨gb,0,none⟩ 5)) (Ext.alloc w _) ⟨_,rfl⟩ (fun h=>by cases h)) ?_
   rw[yfA];refine zkT (fun w hx=>zpT (v:=.pointer (some ⟨b,0,none⟩)) rfl) rfl rfl ?_;refine zkT (fun w hx=>zoV rfl) rfl rfl ?_;refine zkT (fun w hx=>zqQ bf1 rfl) rfl rfl ?_;refine zkT (fun w hx=>zuB (v:=sl gb 0 0 0) bto2 (H.ext hx) rfl h1 rfl) rfl rfl ?_;refine zkT (fun w hx=>yzR bus rfl (H.ext hx) h2 rfl) rfl rfl ?_;refine t_nil (fun w2 hx hF hA=>?_);obtain⟨ad,had⟩:=fact_rel hF 4 rfl rfl;replace H:=H.ext hx;clear hx hF hA;refine zeW (c:=str ([]:Bs)) (r_ust (by exact had) rfl (Lib.run_unsafeString_none _ _ _ _ _)) ?_;replace H:=H.rm k2;refine zeW (zrV (v:=str ([]:Bs)) rfl) ?_;refine wpList_nil ?_;refine ynP ?_;refine zvK ?_;refine hK2 _ _ ?_;refine wp_ret ?_;refine e_1 rfl (ysP (v:=str ([]:Bs)) rfl) ?_;exact⟨rfl,H⟩
  ·skip
   refine wp_seq_k ?_;intro K1 hK1;refine wp_region_lit ?_;refine zeW (zrV (v:=str ([]:Bs)) rfl) ?_;refine wpList_nil ?_;refine zvK ?_;refine hK1 _ _ ?_;refine wp_seq_k ?_;intro K2 hK2;apply zwS 10 (kinds []) rfl rfl (by kernel_rfl);intro vs;simp only[tkS,tkZ,drS,drZ];replace H:=H.drew;refine zkT (fun w hx=>zpT (v:=.pointer (some ⟨b,0,none⟩)) rfl) rfl rfl ?_;refine zkT (fun w hx=>zoV rfl) rfl rfl ?_;refine zkT (fun w hx=>zqQ bf1 rfl) rfl rfl ?_;refine zkT (fun w hx=>zuB (v:=sl gb 0 xs.length c) bto2 (H.ext hx) rfl h1 rfl) rfl rfl ?_;refine zkT (fun w hx=>r_usd (r:=.pointer (some ⟨gb,0,none⟩)) rfl (Lib.run_unsafeSliceData_row _ _ _ _ _ _ hc)) rfl rfl ?_;refine zkT (fun w hx=>zpT (v:=.pointer (some ⟨b,0,none⟩)) rfl) rfl rfl ?_;refine zkT (fun w hx=>zoV rfl) rfl rfl ?_;refine zkT (fun w hx=>zqQ bf1 rfl) rfl rfl ?_;refine zkT (fun w hx=>zuB (v:=sl gb 0 xs.length c) bto2 (H.ext hx) rfl h1 rfl) rfl rfl ?_;refine zkT (fun w hx=>yzR bus rfl (H.ext hx) h2 rfl) rfl rfl ?_;refine t_nil (fun w2 hx hF hA=>?_);have hb2:w2.heap[gb]? = some (.cells (cs++rs).toArray 5 fz):=by rw[hx.block gb (lt_of_heap hblk)];exact hblk
   replace H:=H.ext hx;clear hx hF hA;refine p_ofc (c:=str xs) (φ:=fun w'=>HS B S w' (rmR L k2)) ?_ ?_
   ·by_cases hx0:xs=[]
    ·subst hx0;exact⟨w2,r_ust rfl rfl (Lib.run_unsafeString_none _ _ _ _ _),H.rm k2⟩
    ·have hsh:w2.shape? gb=some (5,(cs++rs).toArray.size):=by simp[World.shape?,hb2]
     have hcs:=RL.is_u8s h0;have hxl:xs.length<=(cs++rs).length:=by rw[aD,hlen];omega
     have hrun:=Lib.run_unsafeString_row (P:=aB) w2 179 3 9 5 bup buc gb _ hsh xs hx0 (by simpa using hxl) hl (fun j x hj=>by
      rw[zbY,zcT hb2,aU,aE (by have:=(aC.1 hj).1;omega),hcs]
      exact u8s_get hj)
     refine⟨_,r_ust rfl rfl hrun,?_⟩
     have H2:=H.upd (w':=w2.freeze ⟨gb,0,none⟩ xs.length) (r':=.osl (.slice none 0 0) 0 1 [] [] 5) h2 (by unfold World.freeze;split<;>simp) (by unfold World.freeze;split<;>rfl) (by unfold World.freeze;split<;>rfl) (by unfold World.freeze;split<;>rfl) (fun i hi hne=>by
      have hig:gb≠i:=fun e=>hne (by rw[e];rfl);unfold World.freeze;split
      ·rfl
      ·simp[Array.getElem?_modify,hig]) (.inl ⟨rfl,rfl,rfl,rfl⟩) (fun b hb=>by cases hb)
     have H3:=H2.rm k2;rw[stR_rm]at H3;exact H3
   clear H;intro w3 H;refine zeW (zrV (v:=str xs) rfl) ?_;refine wpList_nil ?_;refine ynP ?_;refine zvK ?_;refine hK2 _ _ ?_;refine wp_ret ?_;refine e_1 rfl (ysP (v:=str xs) rfl) ?_;exact⟨rfl,H⟩
theorem to9:TOne aB 9:=⟨fun _=>by kernel_rfl,fun _=>by kernel_rfl⟩
theorem to102:TOne aB 102:=⟨fun _=>by kernel_rfl,fun _=>by kernel_rfl⟩
theorem tz104:ysV aB 104 (.agg #[.pointer none,.slice none 0 0]):=fun _=>by kernel_rfl
theorem u9:Tryz.prog.underlying 9=some .string:=by kernel_rfl
theorem u22:Tryz.prog.underlying 22=some (.slice 9):=by kernel_rfl
theorem is67:IsFn aB 67:=isFn Tryz.func67 (by kernel_rfl) (by kernel_rfl)
theorem is68:IsFn aB 68:=isFn Tryz.func68 (by kernel_rfl) (by kernel_rfl)
theorem is69:IsFn aB 69:=isFn Tryz.func69 (by kernel_rfl) (by kernel_rfl)
theorem is167:IsFn aB 167:=isFn Tryz.func167 (by kernel_rfl) (by kernel_rfl)
theorem xaR:xdS aB 104 1 1:=fun _ _ _=>by kernel_rfl
theorem tn102:TSn aB 102 5 (.int .u8 0) [.int .u8 0] 1 1:=TSn.mk' (by kernel_rfl) (by kernel_rfl) rfl rfl rfl rfl
theorem tsz9:TSz aB 9 1:=fun _=>by kernel_rfl
theorem tsz102:TSz aB 102 1:=fun _=>by kernel_rfl
def zfX(x0:Bs)(x1:Bs):Option (Int×Bs):=
 aP (zkX x0) fun y1=>aP (app y1 x1) fun y2=>some ((((x1).length:Int),y2))
theorem zzB{b0_:Nat}{x0:Bs}{pv1:Value}{pcs1 prs1:LV}{pa1:Value}(H:HS ⟨S,zbD [.blk b0_ (([pa1]++([pv1]))) 104,.osl (pv1) (x0).length 1 pcs1 prs1 5],w⟩ S w [.blk b0_ (([pa1]++([pv1]))) 104,.osl (pv1) (x0).length 1 pcs1 prs1 5])(pg1:RL S pcs1 x0)(pg2:BA b0_ pa1){x1:Bs}{r:Int×Bs}(hF:zfX x0 x1=some r):Calls aB 67 #[.pointer (some ⟨b0_,0,none⟩),str (x1)] w fun e w'=>∃(S2:Mem) (pv4:Value) (pcs4 prs4:LV) (pa4:Value),e = .returned (.tuple #[.int .i64 (r.1),.nilIface])/\HS ⟨S,zbD [.blk b0_ (([pa1]++([pv1]))) 104,.osl (pv1) (x0).length 1 pcs1 prs1 5],w⟩ S2 w' [.blk b0_ (([pa4]++([pv4]))) 104,.osl (pv4) (r.2).length 1 pcs4 prs4 5]/\RL S2 pcs4 r.2/\BA b0_ pa4:=by refine enter (n:=19) Tryz.func67 rfl rfl rfl ?_;unfold zfX at hF;refine sr ?_;intro K1 hK1;refine p_as (v:=.int .i64 (0)) rfl ?_;refine p_as (v:=.nilIface) rfl ?_;refine xk hK1 ?_;clear hK1;refine sr ?_;intro K2 hK2;refine p_mv (v:=.pointer (some ⟨b0_,0,none⟩)) rfl ?_;obtain⟨y1,e1,hF⟩:=bnd hF;refine yvT (l:=[.pointer (some ⟨b0_,0,none⟩)]) is167 rfl ?_;refine(ybY (H.hand [0,1] rfl) pg1 pg2 e1).mono ?_;rintro _ w1 ⟨S1,pv2,pcs2,prs2,pa2,rfl,H2,pg3,pg4⟩;obtain⟨H1,hle1⟩:=H.frame [0,1] [] rfl H2;clear H H2;have H:=H1;clear H1;replace H:HS ⟨S,zbD [.blk b0_ (([pa1]++([pv1]))) 104,.osl (pv1) (x0).length 1 pcs1 prs1 5],w⟩ S1 w1 [.blk b0_ (([pa2]++([pv2]))) 104,.osl (pv2) (y1).length 1 pcs2 prs2 5]:=H;refine xk hK2 ?_;clear hK2;refine sr ?_;intro K3 hK3;refine p_mv (v:=.pointer (some ⟨b0_,0,none⟩)) rfl ?_;refine p_mv (v:=.pointer (some ⟨b0_,0,none⟩)) rfl ?_;refine zeW (zoV rfl) ?_;refine zeW (zqQ xaR rfl) ?_;refine zeW (zuB (v:=pv2) to102 H rfl (k:=0) rfl rfl) ?_;refine p_mv (v:=str (x1)) rfl ?_;obtain⟨y2,e2,hF⟩:=bnd hF;refine p_of1 (xbV (k:=1) (l:=x1) tn102 u9 H rfl rfl pg3 rfl e2) ?_;clear H;rintro w2 v1 ⟨cs1,rs1,H,g1⟩;replace H:HS ⟨S,zbD [.blk b0_ (([pa1]++([pv1]))) 104,.osl (pv1) (x0).length 1 pcs1 prs1 5],w⟩ S1 w2 [.blk b0_ (([pa2]++([pv2]))) 104,.osl (v1) (y2).length 1 cs1 rs1 5]:=H;refine zeW (zoV rfl) ?_;refine zeW (zqQ xaR rfl) ?_;refine p_ofs (ynQ (k:=0) (v:=v1) (l:=[v1]) tsz102 H rfl rfl rfl (cells_one (HS.ownOne H (k:=1) rfl)) rfl (fun u hu=>by rw[List.mem_singleton]at hu;rw[hu];exact HS.ownOne H (k:=1) rfl) rfl) ?_;clear H;intro w3 H;replace H:HS ⟨S,zbD [.blk b0_ (([pa1]++([pv1]))) 104,.osl (pv1) (x0).length 1 pcs1 prs1 5],w⟩ S1 w3 [.blk b0_ (([pa2]++([v1]))) 104,.osl (v1) (y2).length 1 cs1 rs1 5]:=H;refine xk hK3 ?_;clear hK3;refine sr ?_;intro K4 hK4;refine p_mv (v:=str (x1)) rfl ?_;refine zeW (xfI (N:=(x1).length) u9 rfl rfl) ?_;refine p_as (v:=.int .i64 (((x1).length:Int))) rfl ?_;refine p_as (v:=.nilIface) rfl ?_;refine xk hK4 ?_;clear hK4;refine wp_ret ?_;obtain rfl:=osi hF;refine e_2 rfl (ysP (v:=.int .i64 (((x1).length:Int))) rfl) (ysP (v:=.nilIface) rfl) ?_;replace H:HS ⟨S,zbD [.blk b0_ (([pa1]++([pv1]))) 104,.osl (pv1) (x0).length 1 pcs1 prs1 5],w⟩ S1 w3 [.blk b0_ (([pa2]++([v1]))) 104,.osl (v1) (y2).length 1 cs1 rs1 5]:=H;exact⟨_,_,_,_,_,rfl,H,g1,pg4⟩
def zhO(x0:List Bs)(s1:Int×Bs):Option ((Int×Bs)⊕(Bs)):=
 bif decide (s1.1<((x0).length:Int))then(aP (idx x0 s1.1) fun y1=>aP (ysL ((y1).length:Int)) fun y2=>aP (app y2 ([58]:Bs)) fun y3=>aP (app y3 y1) fun y4=>aP (zfX s1.2 y4) fun y5=>some (.inl (((w64 (s1.1+1)),y5.2))))else(some (.inr (s1.2)))
def zjJ(x0:List Bs):Option (Bs):=
 aP (aP (iter (zhO x0) ((0,([]:Bs)))) (fun e=>some (e))) (fun t1=>aP (chk (decide ((t1).length<=68719476736))) fun _y6=>some (t1))
theorem ylI(hS:Sub S w)(hG:GV S){v0_:Value}{x0:List Bs}(h0_:RdS S v0_ x0){r:Bs}(hF:zjJ x0=some r):Calls aB 22 #[v0_] w fun e w'=>e = .returned (str (r))/\Ext w w':=by
 refine enter (n:=21) Tryz.func22 rfl rfl rfl ?_;have H:=HS.start hS;unfold zjJ at hF;refine sr ?_;intro K1 hK1;refine p_as (v:=str (([]:Bs))) rfl ?_;refine xk hK1 ?_;clear hK1;refine sr ?_;intro K2 hK2;refine p_ofb (ysA (l:=([Value.pointer none]++([Value.slice none 0 0]))) H tz104 rfl) ?_;clear H;intro w1 b1 H;refine xk hK2 ?_;clear hK2;refine wp_seq_k ?_;intro K3 hK3;refine nameF fun m1 k1=>?_;obtain⟨t1,hE1,hF1⟩:=bnd hF;have J1:∀(a2:Value) (v2:Value) (cs3 rs2:LV) (S3:Mem) (m4:FM) (w5:World),(∀t,has [5,6,7,8,9,10,11,12,13,14,15,16,17,18,19] t=false->look m4 t=look m1 t)->Mem.le S S3->HS ⟨S,[],w⟩ S3 w5 [.osl (v2) (t1).length 1 cs3 rs2 5,.blk b1 (([a2]++([v2]))) 104]->BA b1 a2->RL S3 cs3 t1->K3 (fr 21 m4) w5:=by clear H;intro a2 v2 cs3 rs2 S3 m4 w5 k5 hle3 H g4 g5;replace hG:=GV.mono hG hle3;replace h0_:=RdS.mono h0_ hle3;have q5:look m4 3 = .pointer (some ⟨b1,0,none⟩):=(k5 3 rfl).trans (k1 3);refine hK3 _ _ ?_;refine sr ?_;intro K9 hK9;obtain⟨y6,e6,hF1⟩:=bnd hF1;refine yvT (l:=[.pointer (some ⟨b1,0,none⟩)]) is69 (ygT q5 ywE) ?_;refine(yfS (k1:=1) (k2:=0) H rfl rfl g5 (Nat.le_trans (zC (zjK e6)) (by decide))).mono ?_;clear H;rintro _ w6 ⟨rfl,H⟩;replace H:HS ⟨S,[],w⟩ S3 w6 [.blk b1 (([a2]++([v2]))) 104]:=H;refine p_as (v:=str (t1)) rfl ?_;refine xk hK9 ?_;clear hK9;refine wp_ret ?_;obtain rfl:=osi hF1;refine e_1 rfl (ysP (v:=str (t1)) rfl) ?_;exact⟨rfl,H.toExt⟩
 refine sr ?_;intro K4 hK4;refine p_mv (v:=v0_) (k1 0) ?_;refine zeW (r_lenR' u22 rfl h0_ H.sub) ?_;refine p_mv (v:=.int .i64 (0)) rfl ?_;refine xk hK4 ?_;clear hK4;refine wp_block ?_;refine nameF fun m2 k2=>?_;obtain⟨out1,hL1,hE2⟩:=bnd hE1;replace H:=H.nilOwn 1 5;have g3:RL S [] ([]:Bs):=RL.nil;replace H:HS ⟨S,[],w⟩ S w1 [.osl (.slice none 0 0) (([]:Bs)).length 1 [] [] 5,.blk b1 (([Value.pointer none]++([Value.slice none 0 0]))) 104]:=H;refine loopI [5,8,9,10,11,12,13,14,15,16,17,18,19] (fun(s1:Int×Bs) (m3:FM) (w2:World)=>∃(S1:Mem) (a1:Value) (v1:Value) (cs1 rs1:LV),look m3 8 = .int .i64 (s1.1)/\Mem.le S S1/\HS ⟨S,[],w⟩ S1 w2 [.osl (v1) (s1.2).length 1 cs1 rs1 5,.blk b1 (([a1]++([v1]))) 104]/\BA b1 a1/\RL S1 cs1 s1.2) hL1 ⟨_,_,_,_,_,(k2 8),(Mem.le_refl _),H,(Or.inl rfl),g3⟩ ?_;clear H;intro k4 s1 m3 w2 k3 hI1 o2 hb1 hh1;obtain⟨S1,a1,v1,cs1,rs1,q1,hle1,H,g1,g2⟩:=hI1;replace hG:=GV.mono hG hle1;replace h0_:=RdS.mono h0_ hle1;have q2:look m3 3 = .pointer (some ⟨b1,0,none⟩):=(k3 3 rfl).trans ((k2 3).trans (k1 3));have q3:look m3 6=v0_:=(k3 6 rfl).trans (k2 6);have q4:look m3 7 = .int .i64 (((x0).length:Int)):=(k3 7 rfl).trans (k2 7);unfold zhO at hb1;refine sr ?_;intro K5 hK5;refine zeW (r_lssI q1 q4) ?_;refine xk hK5 ?_;clear hK5;refine wp_seq_k ?_;intro K6 hK6;refine yrR (t:=decide (s1.1<((x0).length:Int))) rfl (fun hc1=>?_) (fun hc1=>?_)
 ·replace hb1:=cnd_t hb1 hc1;refine wp_skip ?_;refine xn hK6 ?_;clear hK6;refine wp_seq_k ?_;intro K7 hK7;refine wp_block ?_;refine sr ?_;intro K8 hK8;obtain⟨y1,e1,hb1⟩:=bnd hb1;obtain⟨b2,o3,N1,c1,cs2,hv1,hi1,hc2,hr1⟩:=h0_.get (zrO e1).2;refine zeW (yeO (i:=(s1.1:Int).toNat) u22 tsz9 q3 hv1 q1 (zrO e1).1 hi1) ?_;obtain rfl:=elT hr1;refine zeW (s_load1 (p:=(o3+(s1.1:Int).toNat*1)) (o:=0) (v:=str (y1)) to9 H.sub rfl hc2 rfl) ?_;refine p_as (v:=str (y1)) rfl ?_;refine xk hK8 ?_;clear hK8;refine wp_region_lit ?_;refine p_mv (v:=str (y1)) rfl ?_;refine zeW (xfI (N:=(y1).length) u9 rfl rfl) ?_;obtain⟨y2,e2,hb1⟩:=bnd hb1;refine yvT (l:=[.int .i64 (((y1).length:Int))]) is68 rfl ?_;refine(Itoa_c H.sub hG e2).mono ?_;rintro _ w3 ⟨rfl,hx⟩;replace H:=H.ext hx;clear hx;obtain⟨y3,e3,hb1⟩:=bnd hb1;refine zeW (r_cat (r:=y3) rfl rfl (by have:=(ziE e3).1;omega) (ziE e3).2) ?_;refine p_mv (v:=str (y1)) rfl ?_;obtain⟨y4,e4,hb1⟩:=bnd hb1;refine zeW (r_cat (r:=y4) rfl rfl (by have:=(ziE e4).1;omega) (ziE e4).2) ?_;obtain⟨y5,e5,hb1⟩:=bnd hb1;refine yvT (l:=[.pointer (some ⟨b1,0,none⟩),str (y4)]) is67 (ygT q2 (ygT rfl ywE)) ?_;refine(zzB (H.hand [1,0] rfl) g2 g1 e5).mono ?_;rintro _ w4 ⟨S2,pv1,pcs1,prs1,pa1,rfl,H2,pg1,pg2⟩;obtain⟨H1,hle2⟩:=H.frame [1,0] [] rfl H2;clear H H2;have H:=H1;clear H1;replace hG:=GV.mono hG hle2;replace h0_:=RdS.mono h0_ hle2;replace H:HS ⟨S,[],w⟩ S2 w4 [.blk b1 (([pa1]++([pv1]))) 104,.osl (pv1) (y5.2).length 1 pcs1 prs1 5]:=H;refine wpList_nil ?_;refine b_norm ?_;refine xn hK7 ?_;clear hK7;refine wp_region_lit ?_;refine zeW (r_addI q1 rfl) ?_;refine p_mv (v:=.int .i64 ((w64 (s1.1+1)))) rfl ?_;refine wpList_nil ?_;refine zvK ?_;replace H:=H.sel [1,0] rfl;replace H:HS ⟨S,[],w⟩ S2 w4 [.osl (pv1) (y5.2).length 1 pcs1 prs1 5,.blk b1 (([pa1]++([pv1]))) 104]:=H;obtain rfl:=osi hb1;exact⟨((w64 (s1.1+1)),y5.2),_,rfl,(by (repeat (refine zzW rfl ?_));refine ylX k3 rfl ?_;exact kcx),⟨_,_,_,_,_,rfl,(Mem.le_trans hle1 hle2),H,pg2,pg1⟩,hh1⟩
 ·replace hb1:=cnd_f hb1 hc1;refine wp_exit ?_;refine x_exit ?_;refine x_exit ?_;refine b_hit ?_;refine zvK ?_;replace H:HS ⟨S,[],w⟩ S1 w2 [.osl (v1) (s1.2).length 1 cs1 rs1 5,.blk b1 (([a1]++([v1]))) 104]:=H;obtain rfl:=osi hb1;obtain rfl:=osi hh1;obtain rfl:=osi hE2;exact J1 _ _ _ _ _ _ _ (by (repeat (refine zzW rfl ?_));refine ylX k3 rfl ?_;(repeat (refine zzW rfl ?_));refine yyI k2 ?_;exact kcx) hle1 H g1 g2
end
end Go.Proofs.YtopanhneegpgcaaGreatDoor
namespace Go.Proofs.YtopanhneegpgcaaGreatDoor.Am
open Go Go.RowKit
class zoW (G:List (Nat×Obj)):Prop where
 gv:∀S,GS G S->GV S
theorem wit{p:Prop}{G:List (Nat×Obj)}[zoW G](h:p):p:=h
section
variable {G:List (Nat×Obj)}[zoW G]
def yiC:PC:=⟨[.h (.i .i64)],[.s],ysL,false⟩
theorem yiK:PCok aB G 68 yiC:=pc1 (t1:=.i .i64) (rts:=[.s]) rfl rfl (isFn Tryz.func68 (by kernel_rfl) (by kernel_rfl)) fun S _ _ _ hG hS h=>Itoa_c hS (zoW.gv S hG) h
def ygV:PC:=⟨[.h .s,.h .s],[.s],fun x=>yjS x.1 x.2,false⟩
omit [zoW G] in
theorem yhO:PCok aB G 164 ygV:=pc2 (t1:=.s) (t2:=.s) (rts:=[.s]) rfl rfl rfl (isFn Tryz.func164 (by kernel_rfl) (by kernel_rfl)) fun _ _ _ _ _ _ hS h=>Trim_c hS h
def yjM:PC:=⟨[.h .s,.h .s],[.s,.s,.b],fun x=>cutP x.1 x.2,false⟩
theorem yjP:PCok aB G 59 yjM:=pc2 (t1:=.s) (t2:=.s) (rts:=[.s,.s,.b]) rfl rfl rfl (isFn Tryz.func59 (by kernel_rfl) (by kernel_rfl)) fun S _ _ _ _ hG hS h=>Cut_c hS (zoW.gv S hG) h
def yhC:PC:=⟨[.h .s],[.i .i64,.er],atoiP,false⟩
omit [zoW G] in
theorem yjC:PCok aB G 165 yhC:=by
 refine⟨isFn Tryz.func165 (by kernel_rfl) (by kernel_rfl),fun S0 w0 us (x:Bs) (y:Int×Bool) hG hS ha hy=>?_⟩;have ha:A2 (VR S0 []) [svOf .s x] us:=ha;cases ha with
 |cons q1 q2=>cases q2;rw[ylC (t:=.s) rfl q1];obtain⟨h1,h2⟩:=Atoi_c hS (r:=y) hy;refine h2.mono fun e w' ⟨he,hx⟩=>⟨hx,_,he,⟨_,rfl,_,_,rfl,(rfl:[_]=[_]),_,rfl,?_⟩,fun h=>by cases h⟩;exact⟨_,rfl,.inl ⟨h1,rfl⟩⟩
end
section
variable {G:List (Nat×Obj)}
def yjK:PC:=⟨[.h (.sl .s)],[.s],zjJ,false⟩
theorem yjR[zoW G]:PCok aB G 22 yjK:=by
 refine⟨isFn Tryz.func22 (by kernel_rfl) (by kernel_rfl),fun S0 w0 us (x:List Bs) (y:Bs) hG hS ha hy=>?_⟩;have ha:A2 (VR S0 []) [svOf (.sl .s) x] us:=ha;cases ha with
 |cons q1 q2=>cases q2;rename_i u;have q1:rep (.sl .s) S0 [u] x:=q1;obtain⟨u',hu,hr⟩:=q1;cases hu;exact(ylI hS (zoW.gv S0 hG) hr hy).mono fun e w' ⟨he,hx⟩=>⟨hx,_,he,ymG (l:=[.s]) rfl,fun h=>by cases h⟩
end
section
variable {τ:TE}{P:Program}{G:List (Nat×Obj)}
theorem clone_sc{f:FuncId}{fn:Func}{c:Code}{e:Ty}{T:TypeId}(hm:P.follows .mixedOrders=true)(hτ:TEok P τ)(hf:P.funcs[f]? = some fn)(hfn:IsFn P f)(hb:fn.body=some c)(hl:bW 1 fn.ntmps=true)(hr:aG fn.results.toList.length 1=true) (h1:run 0 fn.ntmps τ ⟨[],[],false,[]⟩ [] c ⟨[(0,.nils)],[]⟩ (finS τ fn 0 [(none,⟨[(0,.nils)],[]⟩)])=some ()) (h2:∀xs:List (den e),run 0 fn.ntmps τ ⟨[],[],false,[]⟩ [] c ⟨[(0,.nn e xs)],[]⟩ (finS τ fn 0 [(none,⟨[(0,.own 0)],[.osl e T]⟩)])=aP (app [] xs) fun r=>some r):
  SCok P G f ⟨⟨[(0,.h (.sl e))],[]⟩,1,[(none,⟨[(0,.own 0)],[.osl e T]⟩)],fun xs=>app [] xs⟩:=by
 refine⟨hfn,fun S0 w0 us E0 L0 (xs:List (den e)) (d:List (den e)) _ hul R hy=>?_⟩;have hy:app [] xs=some d:=hy;have hul:us.length=1:=hul;have hle:us.length<=fn.ntmps:=by rw[hul];exact bB hl
 obtain⟨u,rfl⟩:∃u,us=[u]:=by
  match us,hul with
  |[u],_=>exact⟨u,rfl⟩
 have hu:VB S0 E0 (.v (.sl e) xs) u:=R.sl 0;obtain⟨v,hv,hrd⟩:=hu;injection hv with hv;subst hv
 have re:∀{x:SV},VR S0 E0 x u->RelV ⟨S0,zbD L0,w0⟩ S0 E0 L0 ⟨[(0,x)],[]⟩ (fun t=>[u].getD t undef) w0:=fun {x} hx=>⟨R.hs,R.lL,R.lE,R.obj,fun t=>by
  cases t with
  |zero=>exact hx|succ t=>trivial⟩
 by_cases hn:∃n c,u = .slice none n c
 ·have hu0:u = .slice none 0 0/\xs=[]:=by
   obtain⟨cs,k1,k2⟩:=hrd;obtain⟨n,c',hn⟩:=hn;rcases k1 with⟨⟨a0,k1⟩,k3,_⟩|⟨b',o,c2,ds,T2,fz,k1,_⟩
   ·rw[hn]at k1;injection k1 with _ e2 e3;exact⟨by rw[hn,e2,e3],aT k3⟩
   ·rw[hn]at k1;cases k1
  obtain⟨rfl,rfl⟩:=hu0;have hd:d=[]:=ysK hy;subst hd;refine(ysN hm hτ (ctok (G:=[]) (pc:=[]) (sc:=[]) (k:=false) trivial trivial (by rfl) _ (fun _ h=>by cases h)) hf hb hle hr (re (x:=.nils) rfl) h1).mono fun e' w' ⟨v,he,S',E',L',σo,V',ho,hS,hP,R',hv0,hn0,hres⟩=>?_;have hσ:σo=⟨[(0,.nils)],[]⟩:=by have:=ho (γ:=St) fun _ σ=>some σ;exact(osi this).symm
  subst hσ;have hl':L'.length=0:=R'.lL;have hE':E'.length=0:=R'.lE;have e1:L'=[]:=aT hl';have e2:E'=[]:=aT hE';subst e1;subst e2;have h0:V' 0 = .slice none 0 0:=R'.sl 0;refine⟨v,he,S',[.osl 0 (.slice none 0 0) (tsz e)],[.osl (.slice none 0 0) 0 (tsz e) [] [] T],⟨[(0,.own 0 0)],[.osl 0 e T []]⟩,V',fun k=>?_,hS,fun k e hk=>absurd hk (Nat.not_lt_zero k),⟨HS.nil R'.hs _ _,rfl,rfl,fun i o h=>?_,fun t=>?_⟩,?_,bS _,hres⟩
  ·show k (exOf none) _=_;have:(Shp.put (⟨[(0,.own 0)],[.osl e T]⟩:Shp) ([]:List (den e)))=⟨[(0,.own 0 0)],[.osl 0 e T []]⟩:=by
    obtain⟨q,hq⟩:=zcW e;have e0:∀y:den (.sl e),zcF [.osl e T] [.v (.sl e) y]=[.osl 0 e T y]:=fun y=>by rw[zcF,hq];rfl
    have e1:zcF [.osl e T] [.v (.sl e) ([]:List (den e))]=[.osl 0 e T []]:=e0 _;exact congrArg (fun hp=>(⟨[(0,.own 0 0)],hp⟩:St)) e1
   rw[this];rfl
  ·cases i with
   |zero=>cases h;exact⟨_,_,rfl,rfl,.slice none 0 0,.slice none 0 0,[],[],rfl,rfl,rfl,.inl rfl⟩
   |succ i=>cases h
  ·cases t with
   |zero=>exact VR.ofC (show VC S' _ (.own 0 0) (V' 0) by rw[h0];exact⟨rfl,_,rfl,fun r v s he=>by cases he;exact⟨aK 0,fun _=>rfl⟩⟩)|succ t=>trivial
  ·intro i ver e' T' xs h;cases i with
   |zero=>cases h;rfl
   |succ i=>cases h
 ·exact(ysN hm hτ (ctok (G:=[]) (pc:=[]) (sc:=[]) (k:=false) trivial trivial (by rfl) _ (fun _ h=>by cases h)) hf hb hle hr (re (x:=.nn e xs) ⟨hrd,fun n c h=>hn ⟨n,c,h⟩⟩) ((h2 xs).trans (by rw[hy];rfl))).mono fun _ _ h=>h
theorem xbW{e:Ty}(he:ydU e=false){S S2:Mem}:∀{xs:List (den e)} {cs:LV},@RL (den e) (rpD e) S cs xs->@RL (den e) (rpD e) S2 cs xs
 |[],_,h=>h|_::_,_,⟨c,d,h1,h2,h3⟩=>⟨c,d,h1,ycV e he h2,xbW he h3⟩
theorem xdX{f:FuncId}{e:Ty}{T:TypeId}(he:ydU e=false)(h:SCok P G f ⟨⟨[(0,.h (.sl e))],[]⟩,1,[(none,⟨[(0,.own 0)],[.osl e T]⟩)],fun(xs:List (den e))=>app [] xs⟩):
  SCok P G f ⟨⟨[(0,.own 0)],[.osl e T]⟩,1,[(none,⟨[(0,.own 1)],[.osl e T,.osl e T]⟩)],fun(xs:List (den e))=>aP (app [] xs) fun r=>some (xs,r)⟩:=by
 obtain⟨q,hq⟩:=zcW e;have e0:∀y:den (.sl e),zcF [.osl e T] [.v (.sl e) y]=[.osl 0 e T y]:=fun y=>by rw[zcF,hq];rfl
 refine⟨h.fn,fun S0 w0 us E0 L0 (xs:List (den e)) (d:List (den e)×List (den e)) hG hul R hy=>?_⟩;have hy:(aP (app [] xs) fun r=>some (xs,r))=some d:=hy;obtain⟨ys,hys,hd⟩:=bnd hy;cases hd;have hul:us.length=1:=hul;obtain⟨u,rfl⟩:∃u,us=[u]:=by
  match us,hul with
  |[u],_=>exact⟨u,rfl⟩
 have hput:(Shp.put (⟨[(0,.own 0)],[.osl e T]⟩:Shp) xs)=⟨[(0,.own 0 0)],[.osl 0 e T xs]⟩:=congrArg (fun hp=>(⟨[(0,.own 0 0)],hp⟩:St)) (e0 xs);have R:RelV ⟨S0,zbD L0,w0⟩ S0 E0 L0 ⟨[(0,.own 0 0)],[.osl 0 e T xs]⟩ (fun t=>[u].getD t undef) w0:=by rw[<-hput];exact R
 obtain⟨r0,ee0,g1,g2,v,v',cs,rs,rfl,rfl,hrl,hsm⟩:=R.obj 0 _ rfl;have hL:L0.length=1:=R.lL;have hE:E0.length=1:=R.lE;obtain⟨h7,e1,h8,h9⟩:=(show VB S0 E0 (.own 0 0) u from R.sl 0);rw[g2]at h8;cases h8;have hu:u=v':=(h9 _ _ _ rfl).2 rfl;subst hu;have hle:Mem.le S0 (yaT S0 w0):=leOn S0 w0;have hk:lkR L0 0=some (.osl v xs.length (tsz e) cs rs T):=by rw[zaW];exact g1
 have hrd:@RdS (den e) (rpD e) (yaT S0 w0) u xs:=hsm.rd hle (RdS.ofOwn R.hs hk hrl (zjH e));refine(h.ok (yaT S0 w0) w0 [u] [] [] xs ys (fun p hp=>hle _ _ (hG p hp)) rfl ⟨HS.start (subOn R.hs.sub),rfl,rfl,fun i o ho=>by simp[Shp.put,zcF]at ho,fun t=>?_⟩ hys).mono ?_
 ·cases t with
  |zero=>exact(⟨u,rfl,hrd⟩:VB (yaT S0 w0) [] (.v (.sl e) xs) u)|succ t=>trivial
 rintro e' w' ⟨v1,hv1,S',E',L',σo,V',hout,hS,_,R2,_,_,hres⟩;have hσ:σo=⟨[(0,.own 0 0)],[.osl 0 e T ys]⟩:=by have h1:=hout (γ:=St) fun _ σ=>some σ;have h2:(Shp.put (⟨[(0,.own 0)],[.osl e T]⟩:Shp) ys)=⟨[(0,.own 0 0)],[.osl 0 e T ys]⟩:=congrArg (fun hp=>(⟨[(0,.own 0 0)],hp⟩:St)) (e0 ys);have h3:(some ((Shp.put (⟨[(0,.own 0)],[.osl e T]⟩:Shp) ys).app []):Option St)=some σo:=h1;rw[h2]at h3;exact(osi h3).symm
 subst hσ;obtain⟨r2,ee2,k1,k2,vv,vv',cs2,rs2,rfl,rfl,hrl2,hsm2⟩:=R2.obj 0 _ rfl;obtain⟨k3,e2,k4,k5⟩:=(show VB S' E' (.own 0 0) (V' 0)from R2.sl 0);rw[k2]at k4;cases k4;have hV:V' 0=vv':=(k5 _ _ _ rfl).2 rfl;have hk2:lkR L' 0=some (.osl vv ys.length (tsz e) cs2 rs2 T):=by rw[zaW];exact k1
 have hx:Ext w0 w':=R2.hs.toExt
 have H:HS ⟨S0,zbD L0,w0⟩ S0 w' (.osl vv ys.length (tsz e) cs2 rs2 T::L0):=R.hs.push hx (R2.hs.own 0 _ hk2) fun b hb=>by
  rcases(R2.hs.old 0 _ b hk2 hb).1 with h1|h1
  ·exact h1
  ·cases h1
 refine⟨v1,hv1,S0,E0++[.osl 0 vv' (tsz e)],L0++[.osl vv ys.length (tsz e) cs2 rs2 T],⟨[(0,.own 1 0)],[.osl 0 e T xs,.osl 0 e T ys]⟩,V',fun k=>?_,Mem.le_refl _,Pin.of (ELe.push _ _),⟨HS.snoc H,by simp[hL],by simp[hE],fun i o ho=>?_,fun t=>?_⟩,?_,by simp,hres⟩
 ·show k (exOf none) _=_;have h2:(Shp.put (⟨[(0,.own 1)],[.osl e T,.osl e T]⟩:Shp) ((xs,ys):List (den e)×List (den e)))=⟨[(0,.own 1 0)],[.osl 0 e T xs,.osl 0 e T ys]⟩:=by
   have e2:∀y z:den (.sl e),zcF [.osl e T,.osl e T] [.v (.sl e) y,.v (.sl e) z]=[.osl 0 e T y,.osl 0 e T z]:=fun y z=>by rw[zcF,hq];simp only[];rw[e0];rfl
   exact congrArg (fun hp=>(⟨[(0,.own 1 0)],hp⟩:St)) (e2 xs ys)
  rw[h2];rfl
 ·cases i with
  |zero=>cases ho;exact⟨_,_,by rw[aE (by omega)];exact g1,by rw[aE (by omega)];exact g2,v,u,cs,rs,rfl,rfl,hrl,hsm⟩
  |succ i=>
   cases i with
   |zero=>
    cases ho;refine⟨_,_,by rw[aF (by omega),hL];rfl,by rw[aF (by omega),hE];rfl,vv,vv',cs2,rs2,rfl,rfl,xbW he hrl2,?_⟩;rcases hsm2 with h1|⟨h1,h2,_,h3⟩
    ·exact .inl h1
    ·exact .inr ⟨h1,h2,.inl ⟨h3,rfl,rfl⟩,h3⟩
   |succ i=>simp at ho
 ·cases t with
  |zero=>exact VR.ofC (show VC S0 _ (.own 1 0) (V' 0)from⟨k3,.osl 0 vv' (tsz e),by rw[aF (by omega),hE];rfl,fun r v s he=>by cases he;exact⟨aK 0,fun _=>hV⟩⟩)|succ t=>trivial
 ·intro i ver e' T' xs' hi;cases i with
  |zero=>cases hi;rfl
  |succ i=>
   cases i with
   |zero=>cases hi;rfl
   |succ i=>simp at hi
def finC(τ:TE)(f:Func)(e:Ty)(ex:Ex)(σ:St):Option (List (den e)):=match ex with
 |.exit _=>none|_=>match yeF τ σ f.results.toList with
  |some [.cl e' xs]=>match tyEq e' e with
   |some ⟨h⟩=>some (zkM (by rw[h]:Ty.sl e'=Ty.sl e) (show den (.sl e')from xs))|none=>none
  |_=>none
theorem ylV{f:FuncId}{fn:Func}{c:Code}{e:Ty}(hm:P.follows .mixedOrders=true)(hτ:TEok P τ)(hf:P.funcs[f]? = some fn)(hfn:IsFn P f)(hb:fn.body=some c)(hl:bW 1 fn.ntmps=true)(hj:noJk e=true) (h1:∀xs:List (den e),run 0 fn.ntmps τ ⟨[],[],false,[]⟩ [] c ⟨[(0,.v (.sl e) xs)],[]⟩ (finC τ fn e)=aP (chk (decide ((xs.length:Int)=(xs.length:Int)))) fun _=>aP (subH xs (xs.length:Int)) fun r=>some r):
  PCok P G f ⟨[.h (.sl e)],[.sl e],fun xs=>some xs,true⟩:=by
 refine⟨hfn,fun S0 w0 us (xs:List (den e)) (y:List (den e)) _ hS ha hy=>?_⟩;have hxy:xs=y:=osi hy;subst hxy;have ha:A2 (VR S0 []) [SV.v (.sl e) xs] us:=ha;have h2:run 0 fn.ntmps τ ⟨[],[],false,[]⟩ [] c ⟨[(0,.v (.sl e) xs)],[]⟩ (finC τ fn e)=some xs:=by
  rw[h1 xs];have h3:subH xs (xs.length:Int)=some xs:=by unfold subH;simp
  simp[chk,h3]
 have hul:us.length=1:=by rw[<-ha.len];rfl
 refine enter hf hb rfl (by rw[hul];exact hl) ?_;have R0:Rel fn.ntmps ⟨S0,[],w0⟩ S0 [] [] ⟨argS 0 [SV.v (.sl e) xs],[]⟩ (argm us 0) w0:=by
  refine⟨HS.start hS,rfl,rfl,fun i o h=>by simp at h,fun t=>?_⟩;show VR S0 [] (lkS (argS 0 [SV.v (.sl e) xs]) t) (bif cM t fn.ntmps then look (argm us 0) t else undef);cases ht:cM t fn.ntmps with
  |true=>exact xeR 0 t ha|false=>rw[zmU]at ht;have h1:=of_decide_eq_false ht;have h2:=bB hl;rw[yiR (by simp;omega)];trivial
 refine zuS hm hτ (ctok (G:=[]) (pc:=[]) (sc:=[]) (k:=false) trivial trivial (by rfl) _ (fun _ h=>by cases h)) c R0 (finC τ fn e) xs _ h2 fun ex σ' S' E' L' m' w' h1 _ _ _ R1=>?_
 have key:∀(_:(match yeF τ σ' fn.results.toList with
   |some [.cl e' xs]=>match tyEq e' e with
    |some ⟨h⟩=>some (zkM (by rw[h]:Ty.sl e'=Ty.sl e) (show den (.sl e')from xs))|none=>none
   |_=>none)=some xs),(fr fn.ntmps m').defers=[]/\∃v,(results fn (fr fn.ntmps m').tmps).run P w' = .ok v w'/\Ext w0 w'/\repR (gr S0 w0 w') [.sl e] v xs/\∃a n,v = .slice a n n:=fun h1=>by
  split at h1
  ·rename_i e' ys hl1;split at h1
   ·rename_i hh _;subst hh;have hys:ys=xs:=osi h1;subst hys;obtain⟨vs,h3,h4⟩:=ygJ (P:=P) hτ R1 hl1;obtain⟨v,rfl,h5⟩:=h3.one;obtain⟨h5,a,h6⟩:=(show VB S' E' (.cl e' ys) v from h5);refine⟨rfl,v,?_,R1.hs.toExt,⟨v,rfl,@RdS.mono (den e') (rpD e') _ _ _ _ (match h5 with|⟨cs,h1,h2⟩=>⟨cs,SlS.cut h1,@RL.imp _ (rpD e') _ _ (ztM e' hj) _ _ h2⟩) R1.hs.gr⟩,a,_,h6⟩;rw[zvC,eH];simp only[Sem.run_bind,Sem.run_map,h4,Result.andThen_ok,Sem.run_pure];rfl
   ·cases h1
  ·cases h1
 cases ex with
 |normal=>obtain⟨h2,v,h3,h4,h5,h6⟩:=key h1;exact⟨h2,v,h3,h4,v,rfl,h5,fun _=>h6⟩
 |ret=>obtain⟨h2,v,h3,h4,h5,h6⟩:=key h1;exact⟨h2,v,h3,h4,v,rfl,h5,fun _=>h6⟩
 |exit i=>cases h1
end
end Go.Proofs.YtopanhneegpgcaaGreatDoor.Am
namespace Go.Proofs.YtopanhneegpgcaaGreatDoor.Am
open Go Go.RowKit Go.Maps Go.Sort
open Go.WideElems (Fit rd rg)
def zsQ:List Bs->Bool
 |x::y::l=>Op.bytesLess x y&&zsQ (y::l)|_=>true
def ygS{α:Type}(es:List (Bs×α)):Bool:=decide (es.length<=1048576)&&(es.all (fun p=>decide (p.1.length<=68719476736))&&zsQ (es.map (·.1)))
def zkZ{α:Type}(es:List (Bs×α)):Option (List Bs×List (Bs×α)):=bif ygS es then some (es.map (·.1),es)else none
theorem ymC:∀{l:List Bs},zsQ l=true->l.Pairwise fun x y=>x<y
 |[],_=>.nil|[x],_=>List.pairwise_singleton _ _|x::y::l,h=>by
  unfold zsQ at h;rw[aH,bytesLess_eq,zD]at h;have ih:=ymC (l:=y::l) h.2;refine aX.2 ⟨fun z hz=>?_,ih⟩;rcases aL.1 hz with rfl|hz
  ·exact h.1
  ·exact List.lt_trans h.1 ((aX.1 ih).1 z hz)
theorem yxI{l:List Bs}(h:zsQ l=true):l.mergeSort (fun x y=>decide (x<=y))=l:=by refine List.mergeSort_of_pairwise ((ymC h).imp fun {a b} hab=>?_);simp only[zD];exact List.le_of_lt hab
def anyV:Value->Option (DataW Unit×List MemPlace):=fun _=>some (.nil,[])
section
variable {P:Program}{S:Mem}
theorem yvW{V:Ty}{kT:TypeId}(hk:P.underlying kT=some .string):∀{l:List (Bs×den V)} {ents:List MapEntry},A2 (fun(p:Bs×den V) en=>rep1 .s S en.key p.1/\rep1 V S en.val p.2) l ents->(∀p∈l,p.1.length<=68719476736)->ents.map (·.key)=l.map (fun p=>str p.1)/\(∀x∈ents,∃y,Go.WideElems.rd P kT anyV x=some y)/\(ents.map (Go.WideElems.rg P kT anyV)).map (fun p=>strOf p.1)=l.map (·.1)
 |_,_,.nil,_=>⟨rfl,fun _ h=>(by cases h),rfl⟩|p::l,en::ents,.cons a r,hs=>by
  obtain⟨i1,i2,i3⟩:=yvW hk r fun q hq=>hs q (aN _ hq);have hkey:en.key=str p.1:=by have h:[en.key]=[str p.1]:=a.1;injection h
  have hp:=hs p aO;have hr:Go.WideElems.rd P kT anyV en=some (.string p.1,.nil):=by unfold Go.WideElems.rd;rw[hkey];have:=Go.WideMaps.keyOf_string_mk (P:=P) (k:=kT) hk (s:=⟨p.1.toArray⟩) (by show p.1.toArray.size<=_;simp[maxLen];omega);show(keyOf P kT (.string ⟨p.1.toArray⟩)).bind _=_;rw[this];rfl
  refine⟨by rw[bG,bG,i1,hkey],fun x hx=>?_,?_⟩
  ·rcases aL.1 hx with rfl|hx
   ·exact⟨_,hr⟩
   ·exact i2 x hx
  ·rw[bG,bG,bG,i3];congr 1;unfold Go.WideElems.rg;rw[hr];rfl
theorem owns_any{V:Ty}{kT:TypeId}{w:World}{b ck:Nat}{es:List (Bs×den V)}{ents:List MapEntry}(hk:P.underlying kT=some .string)(hm:MR S .s V es ents)(hb:∀en∈ents,en.born<ck)(hh:w.heap[b]? = some (.map ents.toArray ck))(ho:ygS es=true):∃D0:DataW Unit,w.ownsMap P kT anyV b es.length D0/\Maps.size D0=es.length/\(strKeys D0).Perm (es.map (·.1)):=by
 obtain⟨(l:List (Bs×den V)),(hl:l.Perm es),hA⟩:=hm.perm;unfold ygS at ho;simp only[aH,zD,bK]at ho;obtain⟨h1,h2,h3⟩:=ho;have hlen:ents.length=es.length:=by rw[<-hA.len];exact hl.length_eq
 obtain⟨k1,k2,k3⟩:=yvW hk hA fun p hp=>h2 p (hl.mem_iff.1 hp);have hnd:(es.map (·.1)).Nodup:=(ymC h3).imp fun {a b} hab e=>by subst e;exact List.lt_irrefl _ hab
 refine⟨_,⟨ents.toArray,ck,hh,⟨by simp[maxLen];omega,⟨by simpa using hb,by simpa using hm.nd,?_⟩,by simpa using k2⟩,by simp[hlen],rfl⟩,?_,?_⟩
 ·have e1:l.map (fun p=>str p.1)=(l.map (·.1)).map str:=by rw[List.map_map];rfl
  simp only[];rw[k1,e1];refine List.Pairwise.map _ (fun a b hab e=>hab (ybN e)) ((hl.map _).nodup_iff.2 hnd)
 ·show((ents.map (Go.WideElems.rg P kT anyV)).foldr DataW.insert []).length=_;rw[length_sorted,aI,hlen]
 ·show(((ents.map (Go.WideElems.rg P kT anyV)).foldr DataW.insert []).map fun p=>strOf p.1).Perm _;refine((Go.WideShapes.sorted_perm _).map _).trans ?_;rw[k3];exact hl.map _
theorem yeU:∀(l:List Bs),@RL (den .s) (rpD .s) S (l.map encStr) l
 |[]=>rfl|x::l=>⟨[str x],l.map encStr,rfl,(rfl:[_]=[_]),yeU l⟩
theorem row_rd{w':World}{base n:Nat}{sT:TypeId}{v:Value}{ks:List Bs}(hn:ks.length=n)(hrow:w'.ownsRow base sT 1 v n (ks.map encStr))(hm:∀b,base<=b->S b=nj w'.heap[b]?):@RdS (den .s) (rpD .s) S v ks:=by
 subst hn;refine⟨ks.map encStr,?_,yeU ks⟩;obtain⟨g1,g2⟩:=hrow;show SlS S v ks.length 1 (ks.map encStr);rcases g2 with⟨rfl,g3⟩|⟨gb,cap,cur,rfl,g3,g4,g5,g6,g7,g8⟩
 ·have:ks=[]:=aT g3;subst this;exact .inl ⟨⟨_,rfl⟩,rfl,rfl⟩
 ·refine .inr ⟨gb,0,cap,cur.toList,sT,(0,0),rfl,g5,?_,?_,?_⟩
  ·rw[hm gb g3,g4];rfl
  ·have:cur.toList.length=cap*1:=by simpa using g7
   rw[this];omega
  ·rw[zaS,List.drop_zero];exact g8
theorem zzN{G:List (Nat×Obj)}{f g:FuncId}{mT kT sT:TypeId}{V:Ty}(hfn:IsFn P f)(hk:P.underlying kT=some .string) (hS:∀(Bm b nn:Nat) (D0:DataW Unit) (w:World),Bm<w.heap.size->w.cell? ⟨Bm,0,none⟩=some (.map (some b))->w.ownsMap P kT anyV b nn D0->Maps.size D0<=maxLen->Maps.size D0*16<=140737488355328 ->
   Calls P f #[.func (.func g) #[] #[.pointer (some ⟨Bm,0,none⟩)]] w fun e w'=>∃(v:Value) (ss:List Bs),e = .returned v/\ss.Perm (strKeys D0)/\w'.ownsRow w.heap.size sT 1 v ss.length ((ss.mergeSort (fun x y=>decide (x<=y))).map encStr)/\(v = .slice none 0 0↔ss=[])/\Below w.heap.size w w'):
  SCok P G f ⟨⟨[(0,.fn g [] [.ptr 0 0])],[.blk mT [.mpr 1],.mp true .s V]⟩,1,[(none,⟨[(0,.h (.sl .s))],[.blk mT [.mpr 1],.mp true .s V]⟩)],fun(es:List (Bs×den V))=>zkZ es⟩:=by
 refine⟨hfn,fun S0 w0 us E0 L0 (es:List (Bs×den V)) d _ hul R hy=>?_⟩;have hy:(bif ygS es then some (es.map (·.1),es)else none)=some d:=hy;obtain⟨hok,hy⟩:=zaG hy;have hd:d=(es.map (·.1),es):=(osi hy).symm;subst hd;have hul:us.length=1:=hul;obtain⟨u,rfl⟩:∃u,us=[u]:=by
  match us,hul with
  |[u],_=>exact⟨u,rfl⟩
 obtain⟨q,hq⟩:=zcW (.mp .s V);have hput:(Shp.put (⟨[(0,.fn g [] [.ptr 0 0])],[.blk mT [.mpr 1],.mp true .s V]⟩:Shp) es)=⟨[(0,.fn g [] [.ptr 0 0])],[.blk mT [.mpr 1],.mp 0 .s V es]⟩:=by
  have e0:∀y:den (.mp .s V),zcF [.blk mT [.mpr 1],.mp true .s V] [.v (.mp .s V) y]=[.blk mT [.mpr 1],.mp 0 .s V y]:=fun y=>by simp only[zcF,ygX,Sh.putC,Sh.putB,hq];rfl
  exact congrArg (fun hp=>(⟨[(0,.fn g [] [.ptr 0 0])],hp⟩:St)) (e0 es)
 have hput2:(Shp.put (⟨[(0,.h (.sl .s))],[.blk mT [.mpr 1],.mp true .s V]⟩:Shp) ((es.map (·.1),es):List Bs×List (Bs×den V)))=⟨[(0,.v (.sl .s) (es.map (·.1)))],[.blk mT [.mpr 1],.mp 0 .s V es]⟩:=by
  have e0:∀y:den (.mp .s V),zcF [.blk mT [.mpr 1],.mp true .s V] [.v (.mp .s V) y]=[.blk mT [.mpr 1],.mp 0 .s V y]:=fun y=>by simp only[zcF,ygX,Sh.putC,Sh.putB,hq];rfl
  exact congrArg (fun hp=>(⟨[(0,.v (.sl .s) (es.map (·.1)))],hp⟩:St)) (e0 es)
 have R:RelV ⟨S0,zbD L0,w0⟩ S0 E0 L0 ⟨[(0,.fn g [] [.ptr 0 0])],[.blk mT [.mpr 1],.mp 0 .s V es]⟩ (fun t=>[u].getD t undef) w0:=by rw[<-hput];exact R
 obtain⟨r0,e0,a1,a2,b0,cs,rfl,rfl,a3⟩:=R.objN (i:=0) rfl;obtain⟨c,rfl,a4⟩:=a3.one;obtain⟨_,e1,a5,a6⟩:=(show VB S0 E0 (.mpr 1) c from a4);obtain⟨r1,e1',c1,c2,b,ents,ck,rfl,rfl,c3,c4⟩:=R.objN (i:=1) rfl;rw[c2]at a5;cases a5;have hc:=a6 _ _ _ _ rfl;subst hc;have hh0:w0.heap[b0]? = some (.cells [Value.map (some b)].toArray mT (0,0)):=R.hs.own 0 _ a1;have hh1:w0.heap[b]? = some (.map ents.toArray ck):=R.hs.own 1 _ c1;have hu:u = .func (.func g) #[] #[.pointer (some ⟨b0,0,none⟩)]:=by obtain⟨xs,ys,hu,h1,h2⟩:=(show VC S0 E0 (.fn g [] [.ptr 0 0]) u from R.sl 0);cases h1;obtain⟨y,rfl,h3⟩:=h2.one;obtain⟨b1,hy,e2,h4,h5⟩:=(show VB S0 E0 (.ptr 0 0) y from h3);rw[a2]at h4;cases h4;cases h5 _ rfl;rw[hu,hy]
 subst hu;obtain⟨D0,d1,d2,d3⟩:=owns_any (S:=S0) hk c3 c4 hh1 hok;have hlen:es.length<=1048576:=by unfold ygS at hok;simp only[aH,zD]at hok;exact hok.1
 have hrise:zsQ (es.map (·.1))=true:=by unfold ygS at hok;simp only[aH]at hok;exact hok.2.2
 have hcell:w0.cell? ⟨b0,0,none⟩=some (.map (some b)):=by simp[World.cell?,hh0]
 refine(hS b0 b es.length D0 w0 (Array.getElem?_eq_some_iff.1 hh0).1 hcell d1 (by rw[d2];simp[maxLen];omega) (by rw[d2];omega)).mono fun e w' ⟨v,ss,he,hp,hrow,hnil,hx⟩=>?_;have hx:Ext w0 w':=hx;have hss:ss.mergeSort (fun x y=>decide (x<=y))=es.map (·.1):=by rw[<-yxI hrise];exact mergeSort_of_perm (hp.trans d3)
 have hsl:ss.length=es.length:=by rw[hp.length_eq,d3.length_eq,aI]
 rw[hss,hsl]at hrow;have R':=R.call hx;have hv:VB (gr S0 w0 w') E0 (.v (.sl .s) (es.map (·.1))) v:=
  ⟨v,rfl,row_rd (aI _) hrow fun b hb=>by unfold Go.Proofs.YtopanhneegpgcaaGreatDoor.gr;rw[zH (by omega)]⟩
 refine⟨v,he,gr S0 w0 w',E0,L0,⟨[(0,.v (.sl .s) (es.map (·.1)))],[.blk mT [.mpr 1],.mp 0 .s V es]⟩,fun _=>v,fun k=>?_,ypJ R.hs.sub,Pin.refl _ _,⟨R'.hs,R'.lL,R'.lE,R'.obj,fun t=>?_⟩,?_,aK _,rfl⟩
 ·show k (exOf none) ((Shp.put _ _).app [])=_;rw[hput2];rfl
 ·cases t with
  |zero=>exact VR.ofC (show VC _ _ (.v (.sl .s) (es.map (·.1))) v from hv)|succ t=>trivial
 ·intro i ver e' T' xs h;cases i with
  |zero=>cases h
  |succ i=>
   cases i with
   |zero=>cases h
   |succ i=>cases h
end
end Go.Proofs.YtopanhneegpgcaaGreatDoor.Am
