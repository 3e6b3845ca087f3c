/- Parts of one proof. Conditions: as each theorem says. -/
import Derived.Shelf.Strings.SlTrimAscii
import Derived.KernelRfl
import Derived.Test.YtopanhneegpgcaaGreatDoorRows
import Derived.Lib.Builder
import Derived.Lib.UnsafeStr
import Derived.LaidEql
import Derived.Laws.Externs
import Derived.Sort.KeysCollected
import Derived.Sort.Walk0
import Derived.Test.YtopanhneegpgcaaGreatDoorQyH
open Array renaming getElem?_eq_some_iff->aT,mapM_eq_mapM_toList->fC
open Bool renaming and_eq_true->aI
open List renaming all_eq_true->bR,any_eq_true->eR,dropWhile_cons->gH,eq_nil_of_length_eq_zero->aW,ext_getElem?->bN,getElem?_append_left->aF,getElem?_eq_getElem->aH,getElem?_eq_some_iff->aC,getElem?_set_ne->aS,getElem?_set_self->aP,length_append->aD,length_cons->aQ,length_map->aE,map_cons->bF,mem_cons->aN,mem_cons_of_mem->aM,mem_cons_self->aO,mem_filter->cE,mem_iff_getElem->gC,mem_reverse->iS,pairwise_cons->bD,pairwise_iff_getElem->dD
open Nat renaming beq->aJ,ble->cK,blt->cY,eq_of_beq_eq_true->aB,eq_zero_or_pos->eZ,le_of_ble_eq_true->bK,le_refl->aL,lt_or_gt_of_ne->jF,zero_add->aV,zero_le->bG
open Option renaming bind->aR
open Go.Proofs.Tryz renaming prog->aA
open Go.Instr renaming sureAddr->sG
open Go.Lib renaming decDigits->db
open Go.Op renaming equalIn->Qd
open Go.Result renaming andThen_ok->Gf
open Go.Sem renaming run_bind->La,run_map->xDb,run_pure->Eb
open Go.Proofs.Tryz renaming func68->H6
open Go.Proofs.Tryz
namespace Go.Proofs.YtopanhneegpgcaaGreatDoor.Am
open Go Go.RowKit
section
variable {β:Type}{τ:TE}{Γ:CT}{η:HT}{N0 n:Nat}{P:Program}{B:r9}{S:Mem}{E:List EI}{L:List Q0}{σ:St}{m:FM}{w:World}{ops:Array Oper}{Q:Exit->Act->World->Prop}{rest:List Oper}{o:Oper}
def MA:Ex->Exit
 |.normal=>.normal|.exit i=>.exit i|.ret=>.ret
theorem QD{α γ:Type}{f:α->γ}{o:Option α}{y:γ}(h:ya f o=some y):∃x,o=some x/\f x=y:=by
 cases o with
 |none=>cases h
 |some x=>cases h;exact⟨x,rfl,rfl⟩
theorem Zp{a:Option Nat}{e:Ex}(h:QC a e=true):cd a=e:=by
 cases a with
 |none=>cases e<;>first|rfl|cases h
 |some n=>
  cases e with
  |normal=>cases h
  |exit i=>
   have d:=aB (Z3 h);subst d;have b:=Y4 h;cases c:aJ n 1000000 with
   |true=>rw[c]at b;cases b
   |false=>simp only[cd,c,zH]
  |ret=>simp only[cd,show aJ n 1000000=true from h,zF]
theorem p8.ev{D:List Nat}{m b:FM}(h:p8 D m b){t:Nat}(c:j0 D t=false):o0 n b (.tmp t)=o0 n m (.tmp t):=by show(bif cY t n then look b t else undef)=(bif cY t n then look m t else undef);rw[h t c]
theorem Cx{c:Mem}{E':List EI}{h:FM}{D:List Nat}(R:Rel n B S E L σ m w)(hS:Mem.le S c)(b:p8 D m h):∀(kp:List Nat) (t:Nat),VR c E' (z7 (Ae D σ kp) t) (o0 n h (.tmp t))
 |[],_=>trivial|d::kp,t=>by
  unfold Ae;cases i:!(j0 D d)&&xG (z7 σ.sl d) with
  |false=>exact Cx R hS b kp t|true=>
   simp only[zF,z7];cases k:aJ d t with
   |false=>exact Cx R hS b kp t|true=>
    have:=aB k;subst this;have j:=Z3 i
    have l:j0 D d=false:=by cases p:j0 D d with
     |true=>rw[p]at j;cases j
     |false=>rfl
    rw[b.ev l];exact zi (Y4 i) (R.sl d) hS
theorem aq:∀(a b:List (Nat×SV)) (t:Nat),z7 (a++b) t=z7 a t∨z7 (a++b) t=z7 b t
 |[],_,_=>.inr rfl|(d,x)::a,b,t=>by
  simp only[List.cons_append,z7];cases aJ d t with
  |true=>exact .inl rfl|false=>exact aq a b t
theorem l3.X0{V:Nat->Value}(R:l3 B S E L σ V w){l:List (Nat×SV)}(h:∀t,VR S E (z7 l t) (V t)):l3 B S E L (σ.X0 l) V w:=
 ⟨R.hs,R.lL,R.lE,R.obj,fun t=>by
  show VR S E (z7 (σ.sl++l) t) _;rcases aq σ.sl l t with e|e
  ·rw[e];exact R.sl t
  ·rw[e];exact h t⟩
theorem xcQ:∀(os:List X3) (l:List SV),Sa (w8 os l)
 |[],l=>fun i b e T c h=>by cases l<;>(simp[w8]at h)
 |o::os,l=>by
  obtain⟨a,d,h,j⟩:=yvX o os l;rw[h];intro i b e T c h;cases i with
  |zero=>simp at h;exact j _ _ _ _ h|succ i=>exact xcQ os d i b e T c (by simpa using h)
theorem bq{s:c7}{x:b8 s.o8}(h:s.get N0 σ=some x):Sa (s.put x).hp/\N0<=(s.put x).hp.length:=by refine⟨xcQ _ _,?_⟩;unfold c7.get at h;obtain⟨b,_⟩:=r7 h;show N0<=(w8 s.hp _).length;rw[lV];exact bK (Z3 b)
theorem tK{V:Nat->Value}(R:l3 B S E L σ V w){e:Ex}{kp:List (Nat×SV)}(hk:∀i E',Mem.le S i->∀t,VR i E' (z7 kp t) (V t)):∀{outs:List (Option Nat×c7)} {d:DS outs},inj N0 outs e σ=some d->∃i E' j c,Mem.le S i/\l8 N0 E E'/\l3 B i E' j c V w/\Sa c.hp/\N0<=c.hp.length/\∀{γ:Type} (k:Ex->St->Option γ),out kp outs d k=k e c
 |[],_,h=>by cases h
 |[a],d,h=>by obtain⟨p,z⟩:=r7 h;obtain⟨i,E',j,hS,q,r⟩:=LA R (fun l=>fh l R) z;obtain⟨s,u⟩:=bq z;refine⟨i,E',j,_,hS,q,r.X0 (hk i E' hS),s,u,fun k=>?_⟩;show k (cd a.1) _=_;rw[Zp p]
 |a::b::l,d,h=>by
  have next:ya Sum.inr (inj N0 (b::l) e σ)=some d->∃i E' j c,Mem.le S i/\l8 N0 E E'/\l3 B i E' j c V w/\Sa c.hp/\N0<=c.hp.length/\∀{γ:Type} (k:Ex->St->Option γ),out kp (a::b::l) d k=k e c:=fun h=>by obtain⟨x,p,rfl⟩:=QD h;exact tK R hk (outs:=b::l) p
  simp only[inj]at h;cases v:QC a.1 e with
  |true=>
   rw[v]at h;simp only[zF]at h;split at h
   ·rename_i x p;cases h;obtain⟨i,E',j,hS,q,r⟩:=LA R (fun l=>fh l R) p;obtain⟨s,u⟩:=bq p;refine⟨i,E',j,_,hS,q,r.X0 (hk i E' hS),s,u,fun k=>?_⟩;show k (cd a.1) _=_;rw[Zp v]
   ·exact next h
  |false=>rw[v]at h;exact next h
theorem HS.nil(H:HS B S w L)(sz:Nat)(T:TypeId):HS B S w (.H' (.slice none 0 0) 0 sz [] [] T::L):=by
 refine⟨H.fr,H.sub,H.keep,fun i q h=>?_,fun i q b h c=>?_,fun i j q s b d k l p=>?_⟩
 ·cases i with
  |zero=>cases h;exact .inl ⟨rfl,rfl,rfl,rfl⟩
  |succ i=>exact H.own _ q h
 ·cases i with
  |zero=>cases h;cases c
  |succ i=>exact H.old _ q b h c
 ·cases i with
  |zero=>cases d;cases l
  |succ i=>
   cases j with
   |zero=>cases k;cases p
   |succ j=>rw[H.inj i j q s b d k l p]
theorem IQ{c:SV}{u:Value}(d:Ks c=true)(b:VR S E c u):dc S (.slice none 0 0) u 0/\u.oneCell'=true:=by
 cases c with
 |Y'=>have b:u = .slice none 0 0:=b;subst b;exact⟨.inl rfl,rfl⟩|ye=>have b:VB S E .ye u:=b;obtain⟨h,a,rfl⟩:=b;exact⟨.inr ⟨rfl,rfl,h,a,rfl⟩,rfl⟩
 |_=>cases d
theorem Dx(R:Rel n B S E L σ m w){c:SV}{u:Value}(b:Ks c=true)(d:VR S E c u)(e:Ty)(T:TypeId):Rel n B S (E++[.H' 0 u (l0 e)]) (L++[.H' (.slice none 0 0) 0 (l0 e) [] [] T]) ⟨σ.sl,σ.hp++[.H' 0 e T []]⟩ m w/\VC S (E++[.H' 0 u (l0 e)]) (.own σ.hp.length 0) u:=by obtain⟨h,i⟩:=IQ b d;refine⟨R.snoc (HS.nil R.hs _ _) ⟨.slice none 0 0,u,[],[],rfl,rfl,rfl,h⟩,i,.H' 0 u (l0 e),by rw[<-R.lE];simp,fun r v s j=>?_⟩;cases j;exact⟨aL 0,fun _=>rfl⟩
theorem uK(R:Rel n B S E L σ m w)(x:Mk):∃A E' M,Mem.le S A/\V4 E E'/\Rel n B A E' M (rN σ x) m w:=by
 have same:∃A E' M,Mem.le S A/\V4 E E'/\Rel n B A E' M σ m w:=⟨S,E,L,Mem.le_refl _,V4.refl _,R⟩;cases x with
 |sl d e T=>
  simp only[rN];cases N:Ks (z7 σ.sl d) with
  |false=>exact same|true=>obtain⟨H,k⟩:=Dx R N (R.sl d) e T;exact⟨S,_,_,Mem.le_refl _,V4.push E _,H.re (d:=d) (VR.ig k)⟩
 |cell d i e T=>
  simp only[rN];split
  ·split
   ·rename_i id off hp _ T' s O;split
    ·rename_i c hi;cases N:Ks c with
     |false=>exact same|true=>
      obtain⟨r0,e0,k,I,b,l,rfl,rfl,J⟩:=R.P6 O;obtain⟨u,K,h5⟩:=J.at hi;obtain⟨H,h6⟩:=Dx R N (VR.ig h5) e T;have C:id<σ.hp.length:=by rw[<-R.lE];exact(aC.1 I).1
      have U:(E++[EI.H' 0 u (l0 e)])[id]? = some (.N' b):=by rw[aF (by rw[R.lE];exact C)];exact I
      have q:Y3 (L++[Q0.H' (.slice none 0 0) 0 (l0 e) [] [] T]) id=some (.N' b l T'):=by rw[N7,aF (by rw[R.lL];exact C),<-N7];exact k
      have r:Za (L++[Q0.H' (.slice none 0 0) 0 (l0 e) [] [] T]) id (.N' b l T')=L++[Q0.H' (.slice none 0 0) 0 (l0 e) [] [] T]:=by
       rw[gp];apply bN;intro j;by_cases p:id=j
       ·subst p;rw[N7]at q;rw[aP (aC.1 q).1,q]
       ·rw[aS p]
      have h7:A2 (VC S (E++[EI.H' 0 u (l0 e)])) (O6 s i (.own σ.hp.length 0)) l:=by
       have h8:A2 (VC S (E++[EI.H' 0 u (l0 e)])) s l:=J.imp fun _ _ h=>h.mono (Mem.le_refl S) (V4.push E _);have Z:=A2.set (a:=SV.own σ.hp.length 0) h6 i h8;have V:l.set i u=l:=by
        apply bN;intro j;by_cases p:i=j
        ·subst p;rw[aP (aC.1 K).1,K]
        ·rw[aS p]
       rw[me];rw[V]at Z;exact Z
      exact⟨S,_,_,Mem.le_refl _,V4.push E _,H.Ts (r':=.N' b l T') U (by rw[r];exact H.hs) ⟨b,l,rfl,rfl,h7⟩⟩
    ·exact same
   ·exact same
  ·exact same
 |qu d=>
  simp only[rN];split
  ·rename_i id D hv;split
   ·rename_i F e T t z O;cases hb:aJ D F with
    |false=>exact same|true=>
     have:=aB hb;subst this;obtain⟨r0,e0,k,I,v,v',s,W,rfl,rfl,J,X⟩:=R.P6 O;obtain rfl:=X.eq (i:=0) (by simp);obtain⟨b,c,fz,k1,k2,k3⟩:=mg R.hs k (i:=0) (by simp);subst k1;have Y:(t::z).length<=c:=by
      rcases R.hs.own id _ k with⟨h,_⟩|⟨b',c',fz',h,K,_⟩
      ·cases h
      ·injection h with _ _ h;rw[h];exact K
     have r:Za L id (.H' (sl b 0 (t::z).length c) (t::z).length (l0 e) s W T)=L:=by
      rw[gp];apply bN;intro j;by_cases p:id=j
      ·subst p;rw[N7]at k;rw[aP (aC.1 k).1,k]
      ·rw[aS p]
     exact⟨S,_,_,Mem.le_refl _,V4.refl _,R.Ts (o':=.qu D e T (t::z)) (r':=.H' (sl b 0 (t::z).length c) (t::z).length (l0 e) s W T) I (by rw[r];exact R.hs) ⟨b,c,0,[],s,W,0,c,by rw[aV];rfl,rfl,by simp,J,Y,.inl ⟨by rw[Nat.zero_mul],by rw[aV]⟩⟩⟩
   ·exact same
  ·exact same
 |fz d=>
  simp only[rN];split
  ·rename_i id v h;exact yQ R id
  ·exact same
theorem zN:∀(l:List Mk) {σ:St} {S:Mem} {E:List EI} {L:List Q0} (_:Rel n B S E L σ m w),∃b E' c,Mem.le S b/\V4 E E'/\Rel n B b E' c (Xe σ l) m w
 |[],_,S,E,L,R=>⟨S,E,L,Mem.le_refl _,V4.refl _,R⟩|x::l,_,_,_,_,R=>by obtain⟨t,u,v,d,h,i⟩:=uK R x;obtain⟨j,k,p,q,r,s⟩:=zN l i;exact⟨j,k,p,Mem.le_trans d q,h.trans r,s⟩
theorem cq{K V:Ty}(s:Ud K=true){es:List (den K×den V)}{Q':List MapEntry}(z:MR S K V es Q'){a c:MapEntry}(J:a∈Q')(M:c∈Q'):a.key=c.key↔a.born=c.born:=by
 obtain⟨l,N,A⟩:=z.perm;have C:l.Pairwise fun p q=>o5 K p.1 q.1=false:=(N.pairwise_iff fun h=>yN s h).2 z.ne;obtain⟨i,k,rfl⟩:=gC.1 J;obtain⟨j,r,rfl⟩:=gC.1 M;have H:=A.len;constructor
 ·intro h;by_cases b:i=j
  ·subst b;rfl
  ·exfalso;obtain⟨p,hp,D⟩:=A2.Mw A (aH k);obtain⟨q,u,F⟩:=A2.Mw A (aH r);have v:p.1=q.1:=vN s (by rw[<-Nl s D.1,<-Nl s F.1,h]);have I:∀{i j:Nat} {p q:den K×den V},i<j->l[i]? = some p->l[j]? = some q->p.1=q.1->False:=fun {i j p q} b hp u v=>by obtain⟨d,rfl⟩:=aC.1 hp;obtain⟨t,rfl⟩:=aC.1 u;have:=dD.1 C i j d t b;rw[v]at this;rw[(Ml s).2 rfl]at this;cases this
   rcases jF b with d|d
   ·exact I d hp u v
   ·exact I d u hp v.symm
 ·intro h;by_cases b:i=j
  ·subst b;rfl
  ·exfalso;have d:∀{i j:Nat} (k:i<Q'.length) (r:j<Q'.length),i<j->Q'[i].born=Q'[j].born->False:=fun {i j} k r b h=>by have:=dD.1 z.nd i j (by simpa using k) (by simpa using r) b;simp only[List.getElem_map]at this;exact this h
   rcases jF b with t|t
   ·exact d k r t h
   ·exact d r k t h.symm
theorem xaP{S R:Type}{f:S->List (Option (S⊕R))}{s:S}{r:R}(h:U8 f s=some r):∃n,Ak f n s r:=by
 unfold U8 at h;split at h
 ·rename_i b;cases h;exact b.choose_spec
 ·cases h
theorem Fx{α γ:Type}{l:List α}{d:γ}{f:α->γ}{p:α}(h:p∈l):f p∈cb l d f:=by
 cases l with
 |nil=>cases h
 |cons x l=>exact List.mem_map.2 ⟨p,h,rfl⟩
theorem dq{γ:Type}{d t:Nat}{g0:St->Option γ}{Z:Option γ->Prop}(R:Rel n B S E L σ m w)(hZ:¬Z none)(z:∀o∈Wh n σ d t g0,Z o){ty:TypeId}{pos:String}{aft:Array Edge}:
  outcome P (fun v w'=>∃U L',Z (g0 U)/\Rel n B S E L' U ((d,v)::m) w') ((execOp (o0 n m) ⟨some d,.next (.tmp t) false,ty,pos,aft,none⟩).run P w):=by
 have bad:∀{X:Prop},(∀o,o∈[(none:Option γ)]->Z o)->X:=fun h=>absurd (h none aO) hZ;unfold Wh at z;split at z
 ·rename_i i ht;split at z
  ·rename_i I gn K cur left hi;split at z
   ·rename_i g' K' V es hm;split at z
    ·rename_i C _;subst C;cases hb:aJ gn g'&&cY d n with
     |false=>rw[hb]at z;exact bad z|true=>
      rw[hb]at z;simp only[zF,Ob]at z;have hd:cY d n=true:=Y4 hb;have hg:=aB (Z3 hb);subst hg;obtain⟨r0,e0,k1,k2,b,mb,ck,seen,rfl,rfl,C,e1,k3,k4⟩:=R.P6 hi;obtain⟨r1,e2,k5,k6,N,Q',q,rfl,rfl,hM,hlt⟩:=R.P6 hm;rw[k6]at k3;cases k3;obtain⟨_,k7⟩:=k4 _ _ _ _ rfl;obtain⟨rfl,rfl,k8⟩:=k7 rfl;obtain⟨l,hl,hA⟩:=hM.perm;have O:=R.sl t;rw[ht]at O;obtain⟨b3,O,e3,q1,q2⟩:=O;rw[k2]at q1;cases q1;have:=q2 _ rfl;subst this;have hh:w.heap[b]? = some (.mapIter (some N) q seen q):=R.hs.own i _ k1;have hh2:w.heap[N]? = some (.map Q'.toArray q):=R.hs.own I _ k5;have exec:∀{u w'},(Instr.next (.pointer (some ⟨b,0,none⟩)) false ty).run P w = .ok u w'->(execOp (o0 n m) ⟨some d,.next (.tmp t) false,ty,pos,aft,none⟩).run P w = .ok (.value u) w':=fun {u w'} h=>by have O:o0 n m (.tmp t) = .pointer (some ⟨b,0,none⟩):=O;simp[execOp,O,h,Result.andThen]
      rcases run_next_at (P:=P) w ty b N q q seen Q'.toArray q hh hh2 (by simpa using hlt) (aL _)with⟨h0,D⟩|⟨r,F,W,Y,D⟩
      ·rw[exec D];have hnil:Ra (o5 K) es left=[]:=by
        rw[Ra,List.filter_eq_nil_iff];intro p hp hany;obtain⟨k,hk,hke⟩:=eR.1 hany;obtain⟨r,F,h1⟩:=A2.Yo hA p (hl.mem_iff.2 hp);have h2:r.born∉seen:=fun h=>((k8 r F).1.1 h) k hk (by rw[Nl C h1.1,(Ml C).1 hke]);have:r∈(leftOf Q'.toArray seen):=by simp[leftOf,F,h2]
        have h3:=Array.size_pos_of_mem this;omega
       rw[hnil]at z;exact⟨_,_,z _ aO,R.put (x:=.Bb [.v .b false]) ⟨[.bool false],rfl,.cons (show u7 .b S [.bool false] false from rfl) .nil⟩ hd⟩
      ·rw[exec D];have s:r∈Q'/\r.born∉seen:=by simpa[leftOf]using F
       obtain⟨p,hp,J⟩:=A2.Yw hA r s.1;have A:=Nl C J.1;have hex:∃k∈left,r.key=kv K k:=by refine Classical.byContradiction fun hno=>s.2 ((k8 r s.1).1.2 fun k hk h=>hno ⟨k,hk,h⟩)
       obtain⟨k,hk,hkk⟩:=hex;have hpk:p.1=k:=vN C (A.symm.trans hkk);have hpm:p∈Ra (o5 K) es left:=by rw[Ra,cE];exact⟨hl.mem_iff.1 hp,eR.2 ⟨k,hk,(Ml C).2 hpk⟩⟩
       have h1:=z _ (Fx (d:=g0 (σ.put d (.Bb [.v .b false]))) (f:=fun p=>g0 ⟨(d,.Bb [.v .b true,W6 K p.1,W6 V p.2])::σ.sl,O6 σ.hp i (.it I gn K (some p.1) (U7 (o5 K) left p.1))⟩) hpm);have H1:HS B S W L:=by
        rcases Y with rfl|rfl
        ·exact R.hs
        ·exact R.hs.drew
       have hh1:W.heap=w.heap:=by rcases Y with rfl|rfl<;>rfl
       have hlt1:b<W.heap.size:=by rw[hh1];exact lt_of_heap hh
       have H2:HS B S (Go.ChangeMaps.setBlock W b (.mapIter (some N) q (seen.push r.born) q)) (Za L i (.obj b (.mapIter (some N) q (seen.push r.born) q))):=by
        refine H1.Gb k1 (by simp[Go.ChangeMaps.setBlock]) rfl rfl rfl (fun j hj hne=>?_) ?_ fun b' hb'=>.inl hb'
        ·have:j≠b:=fun e=>hne (by rw[e];rfl);simp[Go.ChangeMaps.setBlock,Ne.symm this]
        ·show((Go.ChangeMaps.setBlock W b _).heap)[b]? = _;simp[Go.ChangeMaps.setBlock,hlt1]
       have hA1:=hA
       have R1:=R.Ts (o':=.it I gn K (some p.1) (U7 (o5 K) left p.1)) k2 H2 ⟨b,N,q,seen.push r.born,rfl,rfl,C,_,k6,fun g2 b4 c2 es2 he=>by
        cases he;refine⟨aL _,fun _=>⟨rfl,rfl,fun e4 M=>⟨?_,fun c hc=>?_⟩⟩⟩
        ·have hkb:e4.key=r.key↔e4.born=r.born:=cq C hM M s.1;rw[Array.mem_push,(k8 e4 M).1];constructor
         ·rintro(h|h) k' H
          ·exact h k' (cE.1 H).1
          ·rw[hkb.2 h,A];intro h5;have:=(cE.1 H).2;rw[(Ml C).2 (vN C h5).symm]at this;cases this
         ·intro h;by_cases h5:e4.born=r.born
          ·exact .inr h5
          ·refine .inl fun k' H h6=>h k' (cE.2 ⟨H,?_⟩) h6;rw[Bool.not_eq_true',SJ C];intro h7;exact h5 (hkb.1 (by rw[h6,h7,A]))
        ·cases hc;rw[<-A,Array.back?_push]
         exact(cq C hM M s.1).trans ⟨fun h=>by rw[h],fun h=>(ka h).symm⟩⟩
       refine⟨_,_,h1,R1.put (x:=.Bb [.v .b true,W6 K p.1,W6 V p.2]) ⟨[.bool true,r.key,r.val],rfl,.cons (show u7 .b S [.bool true] true from rfl) (.cons (KA J.1) (.cons (KA J.2) .nil))⟩ hd⟩
    ·exact bad z
   ·exact bad z
  ·exact bad z
 ·exact bad z
def Good(P:Program)(N0 n:Nat)(B:r9)(c:Code){β:Type}(rn:(Ex->St->Option β)->Option β)(S:Mem)(E:List EI)(m:FM)(w:World):Prop:=
 ∀(k:Ex->St->Option β) (r:β) (Q:Exit->Act->World->Prop),rn k=some r->(∀e b h i l d j,k e b=some r->Mem.le S h->l8 N0 E i->p8 (z8 c) m d->Rel n B h i l b d j->Q (MA e) (fr n d) j)->c.wp P Q (fr n m) w
theorem JQ{α γ:Type}{o:Option α}{f:α->Option γ}{r:γ}(h:aR o f=some r):∃x,o=some x/\f x=some r:=x9 h
theorem tt(hm:P.follows .mixedOrders=true)(J:P3 P τ)(K:X6 P Γ B):∀(c:Code) {β:Type} {σ:St} {S:Mem} {E:List EI} {L:List Q0} {m:FM} {w:World},Rel n B S E L σ m w->Good P N0 n B c (β:=β) (run N0 n τ Γ η c σ) S E m w
 |.skip,_,σ,S,E,L,m,w,R,k,r,Q,h,F=>wp_skip (F .normal _ _ _ _ _ _ h (Mem.le_refl _) (l8.refl _ _) (p8.refl _ _) R)|.exit id,_,σ,S,E,L,m,w,R,k,r,Q,h,F=>wp_exit (F (.exit id) _ _ _ _ _ _ h (Mem.le_refl _) (l8.refl _ _) (p8.refl _ _) R)|.ret,_,σ,S,E,L,m,w,R,k,r,Q,h,F=>wp_ret (F .ret _ _ _ _ _ _ h (Mem.le_refl _) (l8.refl _ _) (p8.refl _ _) R)|.region id ops d,_,σ,S,E,L,m,w,R,k,r,Q,h,F=>by
  obtain⟨ops⟩:=ops;cases d with
  |true=>exact qt hm J K R h (fun j q u C p z A M H h4 I=>F .normal _ _ _ _ _ _ A M (l8.of H) h4 I)|false=>exact wp_region_lit (HQ J K (fun j q u C p z A M H h4 I=>F .normal _ _ _ _ _ _ A M (l8.of H) h4 I) ops (fun _ h=>h) (Mem.le_refl _) (V4.refl _) (p8.refl _ _) R h)
 |.cond c a b,_,σ,S,E,L,m,w,R,k,r,Q,h,F=>by
  simp only[run]at h;split at h
  ·rename_i t hc;have hv:o0 n m c = .bool t:=vB (p7 R hc);refine Kf hv (fun ht=>?_) (fun ht=>?_)
   ·subst ht;exact tt hm J K a R k r Q h (fun e j q u C p z A M hP H I=>F e j q u C p z A M hP H.l I)
   ·subst ht;exact tt hm J K b R k r Q h (fun e j q u C p z A M hP H I=>F e j q u C p z A M hP H.r I)
  ·cases h
 |.seq a b,_,σ,S,E,L,m,w,R,k,r,Q,h,F=>by
  have next:∀e j q u C p z,nx k (fun σ=>run N0 n τ Γ η b σ k) e j=some r->Mem.le S q->l8 N0 E u->p8 (z8 a) m p->Rel n B q u C j p z->Exit.then (b.wp P Q) Q (MA e) (fr n p) z:=fun e j q u C p z A hS hP hA I=>by
   cases e with
   |normal=>exact tt hm J K b I k r Q A (fun e j q u C p z A M O H I=>F e j q u C p z A (Mem.le_trans hS M) (hP.trans O) ((p8.l hA).trans (p8.r H)) I)|exit i=>exact F (.exit i) _ _ _ _ _ _ A hS hP hA.l I|ret=>exact F .ret _ _ _ _ _ _ A hS hP hA.l I
  simp only[run]at h;refine wp_seq ?_;split at h
  ·rename_i mk kp outs hj;obtain⟨d,A,M⟩:=JQ h;obtain⟨S0,E0,L0,U,V,R0⟩:=zN mk R;refine tt hm J K a R0 (inj N0 outs) d _ A fun e j q u C p z H hS hP hA I=>?_;obtain⟨S2,E2,L2,σ2,W,O,R2,_,_,h4⟩:=tK I (kp:=Ae (z8 a) (Xe σ mk) kp) (fun S'' E'' N t=>Cx R0 (Mem.le_trans hS N) hA kp t) H;rw[h4]at M;exact next e σ2 _ _ _ _ _ M (Mem.le_trans U (Mem.le_trans hS W)) ((l8.of V).trans (hP.trans O)) hA R2
  ·exact tt hm J K a R _ r _ h next
 |.block id b,_,σ,S,E,L,m,w,R,k,r,Q,h,F=>by
  have next:∀e j q u C p z,N' id k e j=some r->Mem.le S q->l8 N0 E u->p8 (z8 b) m p->Rel n B q u C j p z->Exit.inBlock id Q (MA e) (fr n p) z:=fun e j q u C p z A hS hP hA I=>by
   cases e with
   |normal=>exact F .normal _ _ _ _ _ _ A hS hP hA I|ret=>exact F .ret _ _ _ _ _ _ A hS hP hA I|exit i=>
    simp only[N']at A;cases hb:aJ i id with
    |true=>rw[hb]at A;have:=aB hb;subst this;exact oo (F .normal _ _ _ _ _ _ A hS hP hA I)|false=>rw[hb]at A;exact Nk hb (F (.exit i) _ _ _ _ _ _ A hS hP hA I)
  simp only[run]at h;refine wp_block ?_;split at h
  ·rename_i mk kp outs hj;obtain⟨d,A,M⟩:=JQ h;obtain⟨S0,E0,L0,U,V,R0⟩:=zN mk R;refine tt hm J K b R0 _ d _ A fun e j q u C p z H hS hP hA I=>?_;have fin:∀e',inj N0 outs e' j=some d->Q (MA e') (fr n p) z:=fun e' H=>by obtain⟨S2,E2,L2,σ2,W,O,R2,_,_,h4⟩:=tK I (kp:=Ae (z8 b) (Xe σ mk) kp) (fun S'' E'' N t=>Cx R0 (Mem.le_trans hS N) hA kp t) H;rw[h4]at M;exact F e' σ2 _ _ _ _ _ M (Mem.le_trans U (Mem.le_trans hS W)) ((l8.of V).trans (hP.trans O)) hA R2
   cases e with
   |normal=>exact fin .normal H|ret=>exact fin .ret H|exit i=>
    simp only[N']at H;cases hb:aJ i id with
    |true=>rw[hb]at H;have:=aB hb;subst this;exact oo (fin .normal H)|false=>rw[hb]at H;exact Nk hb (fin (.exit i) H)
  ·exact tt hm J K b R _ r _ h next
 |.loop b,_,σ,S,E,L,m,w,R,k,r,Q,h,F=>by
  simp only[run]at h;split at h
  ·rename_i mk s kp outs hj;split at h
   ·rename_i s0 hs0;obtain⟨d,A,M⟩:=JQ h;obtain⟨S0,E0,L0,U,V,R0⟩:=zN mk R;obtain⟨S1,E1,L1,hS1,hP1,I⟩:=LA R0 (fun l=>fh l R0) hs0;have F:∀e j q u C p z,k e j=some r->Mem.le S0 q->l8 N0 E0 u->p8 (z8 b) m p->Rel n B q u C j p z->Q (MA e) (fr n p) z:=fun e j q u C p z A M H h4 h5=>F e j q u C p z A (Mem.le_trans U M) ((l8.of V).trans H) h4 h5;clear U V R;generalize Xe σ mk=σ at *;refine Ch (fun g a w=>∃p x q u C,a=fr n p/\Mem.le S0 q/\l8 N0 E0 u/\p8 (z8 b) m p/\Rel n B q u C (s.put x) p w/\X9 (fun x=>run N0 n τ Γ η b ((s.put x).X0 (Ae (z8 b) σ kp)) (nx (fun e σ=>ya Sum.inr (inj N0 outs e σ)) fun σ=>ya Sum.inl (s.get N0 σ))) g x=some d) FU ⟨m,s0,S1,E1,L1,rfl,hS1,hP1,p8.refl _ _,I,A⟩ ?_;rintro g a w ⟨m2,x,S2,E2,L2,rfl,W,O,hA2,R2,hit⟩;cases g with
    |zero=>cases hit
    |succ g=>
     obtain⟨o,H,h4⟩:=vo hit;refine tt hm J K b (R2.X0 (Cx R0 W hA2 kp)) _ o _ H fun e j q u C p z h5 hS3 hP3 hA3 R3=>?_;have hSS:=Mem.le_trans W hS3;have hAA:=hA2.trans hA3
     have fin:∀e',ya Sum.inr (inj N0 outs e' j)=some o->Q (MA e') (fr n p) z:=fun e' h5=>by
      obtain⟨d',h6,rfl⟩:=QD h5;have h7:d'=d:=by cases h4;rfl
      subst h7;obtain⟨S4,E4,L4,σ4,X,Y,R4,_,_,h8⟩:=tK R3 (kp:=Ae (z8 b) σ kp) (fun S'' E'' N t=>Cx R0 (Mem.le_trans hSS N) hAA kp t) h6;rw[h8]at M;exact F e' σ4 _ _ _ _ _ M (Mem.le_trans hSS X) ((O.trans hP3).trans Y) hAA R4
     cases e with
     |normal=>obtain⟨x',h6,rfl⟩:=QD h5;obtain⟨S4,E4,L4,X,Y,R4⟩:=LA R3 (fun l=>fh l R3) h6;exact⟨g,Nat.lt_succ_self g,p,x',S4,E4,L4,rfl,Mem.le_trans hSS X,(O.trans hP3).trans Y,hAA,R4,h4⟩
     |exit i=>exact fin (.exit i) h5|ret=>exact fin .ret h5
   ·cases h
  ·rename_i mk s kp outs hj;split at h
   ·rename_i id ops c;split at h
    ·rename_i d t ty pos aft l hops;split at h
     ·rename_i s0 hs0;obtain⟨dd,A,M⟩:=JQ h;obtain⟨fuel,hrng⟩:=xaP A;obtain⟨S0,E0,L0,U,V,R0⟩:=zN mk R;obtain⟨S1,E1,L1,hS1,hP1,I⟩:=LA R0 (fun l=>fh l R0) hs0;have F:∀e j q u C p z,k e j=some r->Mem.le S0 q->l8 N0 E0 u->p8 (z8 (.seq (.region id ops false) c)) m p->Rel n B q u C j p z->Q (MA e) (fr n p) z:=fun e j q u C p z A M H h4 h5=>F e j q u C p z A (Mem.le_trans U M) ((l8.of V).trans H) h4 h5;clear U V R;generalize Xe σ mk=σ at *;refine Ch (fun g a w=>∃p x q u C,a=fr n p/\Mem.le S0 q/\l8 N0 E0 u/\p8 (z8 (.seq (.region id ops false) c)) m p/\Rel n B q u C (s.put x) p w/\Ak (fun x=>Wh n ((s.put x).X0 (Ae (z8 (.seq (.region id ops false) c)) σ kp)) d t fun σ=>steps n τ Γ ops.toList l σ fun σ=>run N0 n τ Γ η c σ (nx (fun e σ=>ya Sum.inr (inj N0 outs e σ)) fun σ=>ya Sum.inl (s.get N0 σ))) g x dd) fuel ⟨m,s0,S1,E1,L1,rfl,hS1,hP1,p8.refl _ _,I,hrng⟩ ?_;rintro g a w ⟨m2,x,S2,E2,L2,rfl,W,O,hA2,R2,hit⟩;cases g with
      |zero=>exact hit.elim|succ g=>
       have hD:∀t',j0 (ke (⟨some d,.next (.tmp t) false,ty,pos,aft,none⟩::l)) t'=true->j0 (z8 (.seq (.region id ops false) c)) t'=true:=fun t' ht'=>by show j0 (ke ops.toList++z8 c) t'=true;rw[ux,hops,ht'];rfl
       obtain⟨ops⟩:=ops;have hops:ops=_:=hops;subst hops;refine wp_seq (wp_region_lit (vx (GQ rfl) (dq (R2.X0 (Cx R0 W hA2 kp)) (Z:=yw (fun s'=>Ak _ g s' dd) dd) (fun h=>h) hit) ?_));rintro v z ⟨σ1,L3,hy,R3⟩;generalize hyo:(steps n τ Γ _ l σ1 fun σ=>run N0 n τ Γ η c σ (nx (fun e σ=>ya Sum.inr (inj N0 outs e σ)) fun σ=>ya Sum.inl (s.get N0 σ)))=o at hy
       match o,hy with
       |some y,hy2=>
        rw[ZF];refine HQ J K (D:=z8 (.seq (.region id _ false) c)) (S0:=S2) (E0:=E2) (m0:=m2) (fun j q u C p z h5 hS3 hE3 hA3 R4=>?_) l (fun t' ht'=>hD t' (yoY ht')) (Mem.le_refl _) (V4.refl _) (p8.put (hD d (ypF rfl))) R3 hyo;refine tt hm J K c R4 _ y _ h5 fun e j q u C p z h5 X Y hA4 R4=>?_;have hSS:=Mem.le_trans W (Mem.le_trans hS3 X);have hAA:=hA2.trans (hA3.trans hA4.r);have hPP:=(O.trans (l8.of hE3)).trans Y;have fin:∀e',ya Sum.inr (inj N0 outs e' j)=some y->Q (MA e') (fr n p) z:=fun e' h5=>by obtain⟨d',h6,rfl⟩:=QD h5;have h7:d'=dd:=hy2;subst h7;obtain⟨S4,E4,L4,σ4,X,Y,R4,_,_,h8⟩:=tK R4 (kp:=Ae (z8 (.seq (.region id _ false) c)) σ kp) (fun S'' E'' N t=>Cx R0 (Mem.le_trans hSS N) hAA kp t) h6;rw[h8]at M;exact F e' σ4 _ _ _ _ _ M (Mem.le_trans hSS X) (hPP.trans Y) hAA R4
        cases e with
        |normal=>obtain⟨x',h6,rfl⟩:=QD h5;obtain⟨S4,E4,L4,X,Y,R4⟩:=LA R4 (fun l=>fh l R4) h6;exact⟨g,Nat.lt_succ_self g,p,x',S4,E4,L4,rfl,Mem.le_trans hSS X,hPP.trans Y,hAA,R4,hy2⟩
        |exit i=>exact fin (.exit i) h5|ret=>exact fin .ret h5
     ·cases h
    ·cases h
   ·cases h
  ·cases h
theorem xeE{s:Sem Value}{u:Value}(h:(do pure (Next.value (<-s)):Sem Next).run P w = .ok (.value u) w):s.run P w = .ok u w:=by
 rw[La]at h;cases c:s.run P w with
 |ok v d=>rw[c]at h;simp only[Gf,Eb]at h;injection h with b i;injection b with b;rw[b,i]
 |halt x d=>rw[c]at h;cases h
theorem RD(c:P3 P τ)(R:Rel n B S E L σ m w){v:ResultVar}{x:SV}(h:DJ τ σ v=some x):∃u,VR S E x u/\(PB (fr n m).tmps v).run P w = .ok u w:=by
 cases v with
 |tmp t=>cases h;exact⟨_,R.sl t,JI rfl⟩
 |cell t T=>
  simp only[DJ]at h;split at h
  ·rename_i f d
   have i:deref σ.hp (z7 σ.sl t) f.sz (fun l=>V3 (Vb f l) some)=some x:=by
    have j:(fun l=>V3 (Vb f l) some)=fun l=>Vb f l:=by funext l;cases Vb f l<;>rfl
    rw[j];exact h
   obtain ⟨z, u, p, q, r⟩ := Vo (dst := none) (g := none) (ty := 0) (pos := "") (aft := #[]) (a := .tmp t) (k := some) R (c _ _ d) (R.sl t) i;cases p;refine⟨u,q,?_⟩;have s:=xeE (r w R.hs);show(do loadVar T (<-asAddr ((fr n m).tmps.getD t undef)):Sem Value).run P w=_;rw[io];have b:(do loadVar T (<-sG (o0 n m (.tmp t))):Sem Value).run P w = .ok u w:=s;cases hp:o0 n m (.tmp t) with
   |pointer a=>
    rw[hp]at b;cases a with
    |none=>simp[sG]at b|some a=>simpa[sG,asAddr]using b
   |_=>rw[hp]at b;simp[sG]at b
  ·cases h
theorem pV(b:P3 P τ)(R:Rel n B S E L σ m w):∀{l:List ResultVar} {xs:List SV},Ls τ σ l=some xs->∃us,A2 (VR S E) xs us/\(l.mapM (PB (fr n m).tmps)).run P w = .ok us w
 |[],xs,h=>by cases h;exact⟨[],.nil,by simp⟩
 |v::l,xs,h=>by
  unfold Ls at h;split at h
  ·rename_i x y c d;cases h;obtain⟨u,i,j⟩:=RD b R c;obtain⟨us,k,p⟩:=pV b R d;exact⟨u::us,.cons i k,by simp only[List.mapM_cons,La,j,Gf,p,Eb]⟩
  ·cases h
theorem Gi:∀{l:List Ty} {us:LV} {x:b8 l},kg S l us x->us.length=l.length
 |[],us,_,h=>by have:us=[]:=h;subst this;rfl
 |[_],_,_,⟨_,e,_⟩=>by rw[e];rfl
 |_::a::l,_,_,⟨_,_,e,_,h⟩=>by rw[e];simp[Gi h]
theorem SD{l:List Ty}{us:LV}{x:b8 l}(h:kg S l us x):Be S l (if h:us.toArray.size=1 then us.toArray[0]else .tuple us.toArray) x:=by
 match l,x,h with
 |[],x,h=>have:us=[]:=h;subst this;exact⟨[],rfl,rfl⟩|[t],x,⟨u,e,b⟩=>subst e;exact b|t::d::l,x,h=>have c:=Gi h;rw[dif_neg (by simp at c ⊢;omega)];exact⟨us,rfl,h⟩
theorem cm:∀{xs:List SV} {us:LV} (i t:Nat),A2 (VR S E) xs us->VR S E (z7 (Q5 i xs) t) (look (Ca us i) t)
 |_,_,i,t,.nil=>trivial|_,_,i,t,.cons a r=>by
  unfold Q5 z7 Ca look;cases aJ i t with
  |true=>exact a|false=>exact cm (i+1) t r
theorem xaN:∀(us:LV) (i t:Nat),look (Ca us i) t=if i<=t then us.getD (t-i) undef else undef
 |[],i,t=>by simp[Ca,look]
 |u::us,i,t=>by
  unfold Ca look;rw[xaN us (i+1) t];cases b:aJ i t with
  |true=>have:=aB b;subst this;simp|false=>
   have c:i≠t:=fun e=>by subst e;rw[Nat.beq_refl]at b;cases b
   simp only[zH];by_cases h:i<=t
   ·rw[zJ h,zJ (by omega),show t-i=(t-(i+1))+1 by omega,List.getD_cons_succ]
   ·rw[zI h,zI (by omega)]
theorem yzE:∀(ash:List Sh) (l:List SV),(Wb ash l).1.length=ash.length
 |[],_=>rfl|a::ash,l=>by simp only[Wb,aQ,yzE ash]
theorem yuB:∀{xs:List SV} {i t:Nat},i+xs.length<=t->z7 (Q5 i xs) t = .undef
 |[],_,_,_=>rfl|x::xs,i,t,h=>by
  simp only[aQ]at h;unfold Q5 z7;have:aJ i t=false:=by rw[Hu];simp;omega
  rw[this];exact yuB (by omega)
theorem Gx{G:List (Nat×Obj)}{S0:Mem}{b:World}(c:GS G S0)(hS:Sub S0 b):GB G ⟨S0,[],b⟩:=fun p hp=>⟨(aT.1 (hS _ _ (c p hp))).1,by simp,c p hp⟩
theorem XG{G:List (Nat×Obj)}{B:r9}{S0:Mem}{c:World}{d:List Q0}(b:GS G S0)(H:HS B S0 c d):GB G ⟨S0,U5 d,c⟩:=fun p hp=>by refine⟨(aT.1 (H.sub _ _ (b p hp))).1,fun h=>?_,b p hp⟩;obtain⟨k,r,i,j⟩:=Dh.1 h;have:=(H.old k r _ i j).2;rw[b p hp]at this;cases this
theorem KQ{G:List (Nat×Obj)}{f:FuncId}{fn:Func}{b:List Sh}{rts:List Ty}(V:P.follows .mixedOrders=true)(p:P3 P τ)(H:∀B,GB G B->X6 P Γ B)(hf:P.funcs[f]? = some fn)(I:s8 P f)(O:cK b.length fn.ntmps=true):Z0 P G f ⟨b,rts,zw τ Γ η fn b rts,false⟩:=by
 refine⟨I,fun j q C a y W hS D k=>?_⟩;have k:zw τ Γ η fn b rts a=some y:=k;have D:A2 (VR j []) (Wb b (rc _ a)).1 C:=D;have J:C.length=b.length:=by rw[<-D.len,yzE]
 unfold zw at k;split at k
 ·cases k
 ·rename_i c X;refine enter hf X rfl (by rw[J];exact O) ?_;have R0:Rel fn.ntmps ⟨j,[],q⟩ j [] [] ⟨Q5 0 (Wb b (rc _ a)).1,[]⟩ (Ca C 0) q:=by
   refine⟨HS.start hS,rfl,rfl,fun i o h=>by simp at h,fun t=>?_⟩;show VR j [] (z7 (Q5 0 (Wb b (rc _ a)).1) t) (bif cY t fn.ntmps then look (Ca C 0) t else undef);cases R:cY t fn.ntmps with
   |true=>exact cm 0 t D|false=>rw[eo]at R;have d:=of_decide_eq_false R;have F:=bK O;rw[yuB (by rw[yzE];omega)];trivial
  refine tt V p (H _ (Gx W hS)) c R0 (fin τ fn rts) y _ k fun e r S' E' L' U s d _ _ _ Y=>?_
  have key:∀(_:(match Ls τ r fn.results.toList with
    |some l=>match Ls τ (x5 r (l.flatMap owns)) fn.results.toList with
     |some l=>JC [] rts l|none=>none
    |none=>none)=some y),(fr fn.ntmps U).defers=[]/\∃v,(results fn (fr fn.ntmps U).tmps).run P s = .ok v s/\∃v',Ending.returned v = .returned v'/\Ext q s/\Be (gr j q s) rts v' y:=fun d=>by
   split at d
   ·rename_i l Z;split at d
    ·rename_i l2 K;obtain⟨S2,E2,L2,_,_,M⟩:=fh (l.flatMap owns) Y;obtain⟨vs,u,z⟩:=pV (P:=P) p M K;have A:=Yh (S2:=gr j q s) M.hs.gr Pu rts d u;refine⟨rfl,_,?_,_,rfl,M.hs.Hv,SD A⟩;rw[pP,fC];simp only[La,xDb,z,Gf,Eb]
    ·cases d
   ·cases d
  cases e with
  |normal=>obtain⟨F,v,u,v',z,A,N⟩:=key d;cases z;exact⟨F,v,u,A,v,rfl,N,fun h=>by cases h⟩
  |ret=>obtain⟨F,v,u,v',z,A,N⟩:=key d;cases z;exact⟨F,v,u,A,v,rfl,N,fun h=>by cases h⟩
  |exit i=>cases d
theorem Hi:∀(us:LV) (pre:LV),sg (fun t=>(pre++us).getD t undef) pre.length us.length=us
 |[],_=>rfl|u::us,pre=>by have b:=Hi us (pre++[u]);simp only[aD,List.length_singleton,List.append_assoc,List.singleton_append]at b;simp only[aQ,sg,b];congr 1;simp
theorem vt(us:LV):sg (fun t=>us.getD t undef) 0 us.length=us:=Hi us []
theorem Ix(us:LV):(if h:us.toArray.size=1 then us.toArray[0]else .tuple us.toArray)=gh us:=by
 match us with
 |[]=>rfl|[u]=>rfl|u::b::us=>rw[dif_neg (by simp)];rfl
theorem xaL:∀{l:List ResultVar} {xs:List SV},Ls τ σ l=some xs->xs.length=l.length
 |[],_,h=>by cases h;rfl
 |v::l,_,h=>by
  unfold Ls at h;split at h
  ·rename_i b;cases h;simp[xaL b]
  ·cases h
theorem Ii{f:FuncId}{fn:Func}{c:Code}{N0 nr:Nat}{outs:List (Option Nat×c7)}{S0:Mem}{h:World}{us:LV}{E0:List EI}{j:List Q0}{q:St}{d:DS outs}{rn:(Ex->St->Option (DS outs))->Option (DS outs)}(K:P3 P τ)(hf:P.funcs[f]? = some fn)(W:fn.body=some c)(X:us.length<=fn.ntmps)(Y:aJ fn.results.toList.length nr=true) (R:l3 ⟨S0,U5 j,h⟩ S0 E0 j q (fun t=>us.getD t undef) h) (Z:Rel fn.ntmps ⟨S0,U5 j,h⟩ S0 E0 j q (Ca us 0) h->Good P N0 fn.ntmps ⟨S0,U5 j,h⟩ c rn S0 E0 (Ca us 0) h) (hy:rn (Xh τ fn N0 outs)=some d):Calls P f us.toArray h fun e w'=>∃v,e = .returned v/\∃s E' z b A,(∀{γ:Type} (k:Ex->St->Option γ),out [] outs d k=k .normal b)/\Mem.le S0 s/\l8 N0 E0 E'/\l3 ⟨S0,U5 j,h⟩ s E' z b A w'/\Sa b.hp/\N0<=b.hp.length/\v=gh (sg A 0 nr):=by
 refine enter hf W rfl (Nat.ble_eq_true_of_le X) ?_;have R0:Rel fn.ntmps ⟨S0,U5 j,h⟩ S0 E0 j q (Ca us 0) h:=by
  refine⟨R.hs,R.lL,R.lE,R.obj,fun t=>?_⟩;have p:=R.sl t;show VR S0 E0 (z7 q.sl t) (bif cY t fn.ntmps then look (Ca us 0) t else undef);cases U:cY t fn.ntmps with
  |true=>have:=xaN us 0 t;rw[zJ (bG t)]at this;rw[zF,this];exact p|false=>
   rw[eo]at U;have I:=of_decide_eq_false U;rw[zH];have r:us.getD t undef=undef:=by rw[List.getD_eq_getElem?_getD,List.getElem?_eq_none (by omega)];rfl
   rw[<-r];exact p
 refine Z R0 (Xh τ fn N0 outs) d _ hy fun e u s E' z V w' p hS hP _ C=>?_
 have key:∀(_:(match Ls τ u fn.results.toList with
   |some l=>inj N0 outs .normal ⟨Q5 0 l,u.hp⟩|none=>none)=some d),(fr fn.ntmps V).defers=[]/\∃v,(results fn (fr fn.ntmps V).tmps).run P w' = .ok v w'/\∃v',Ending.returned v = .returned v'/\∃s E' z b A,(∀{γ:Type} (k:Ex->St->Option γ),out [] outs d k=k .normal b)/\Mem.le S0 s/\l8 N0 E0 E'/\l3 ⟨S0,U5 j,h⟩ s E' z b A w'/\Sa b.hp/\N0<=b.hp.length/\v'=gh (sg A 0 nr):=fun p=>by
  split at p
  ·rename_i l D;obtain⟨J,r,F⟩:=pV (P:=P) K C D
   have R2:l3 ⟨S0,U5 j,h⟩ s E' z ⟨Q5 0 l,u.hp⟩ (fun t=>J.getD t undef) w':=⟨C.hs,C.lL,C.lE,C.obj,fun t=>by
    have:=WU 0 t r;rw[zJ (bG t)]at this
    exact this⟩
   obtain⟨S2,E2,L2,M,N,O,R3,hv,hn,H⟩:=tK R2 (kp:=[]) (fun _ _ _ _=>trivial) p;refine⟨rfl,gh J,?_,gh J,rfl,S2,E2,L2,M,_,H,Mem.le_trans hS N,hP.trans O,R3,hv,hn,?_⟩
   ·rw[pP,fC];simp only[La,xDb,F,Gf,Eb,<-Ix]
   ·have h6:J.length=nr:=by rw[<-r.len,xaL D];exact aB Y
    rw[<-h6,vt]
  ·cases p
 cases e with
 |normal=>obtain⟨I,v,r,v',F,H⟩:=key p;cases F;exact⟨I,v,r,v,rfl,H⟩
 |ret=>obtain⟨I,v,r,v',F,H⟩:=key p;cases F;exact⟨I,v,r,v,rfl,H⟩
 |exit i=>cases p
theorem xfO{f:FuncId}{fn:Func}{c:Code}{N0 nr:Nat}{outs:List (Option Nat×c7)}{S0:Mem}{h:World}{us:LV}{E0:List EI}{l:List Q0}{i:St}{d:DS outs}(s:P.follows .mixedOrders=true)(j:P3 P τ)(p:X6 P Γ ⟨S0,U5 l,h⟩)(hf:P.funcs[f]? = some fn)(u:fn.body=some c)(z:us.length<=fn.ntmps)(A:aJ fn.results.toList.length nr=true) (R:l3 ⟨S0,U5 l,h⟩ S0 E0 l i (fun t=>us.getD t undef) h) (C:run N0 fn.ntmps τ Γ η c i (Xh τ fn N0 outs)=some d):Calls P f us.toArray h fun e w'=>∃v,e = .returned v/\∃q E' D b r,(∀{γ:Type} (k:Ex->St->Option γ),out [] outs d k=k .normal b)/\Mem.le S0 q/\l8 N0 E0 E'/\l3 ⟨S0,U5 l,h⟩ q E' D b r w'/\Sa b.hp/\N0<=b.hp.length/\v=gh (sg r 0 nr):=
 Ii j hf u z A R (fun R0=>tt s j p c R0) C
theorem vK{G:List (Nat×Obj)}{f:FuncId}{fn:Func}{I:c7}{nr:Nat}{outs:List (Option Nat×c7)}(l:P.follows .mixedOrders=true)(i:P3 P τ)(j:∀B,GB G B->X6 P Γ B)(hf:P.funcs[f]? = some fn)(k:s8 P f)(p:cK I.sl.length fn.ntmps=true)(q:aJ fn.results.toList.length nr=true):P' P G f ⟨I,nr,outs,Ms τ Γ η fn I outs⟩:=by
 refine⟨k,fun u v r z A a d s b R h=>?_⟩;have h:Ms τ Γ η fn I outs a=some d:=h;have b:r.length=I.sl.length:=b;unfold Ms at h;split at h
 ·cases h
 ·rename_i c t;exact xfO l i (j _ (XG s R.hs)) hf t (by rw[b];exact bK p) q R h
end
def PL(P:Program)(G:List (Nat×Obj)):List (Nat×PC)->Prop
 |[]=>True|x::l=>Z0 P G x.1 x.2/\PL P G l
def SL(P:Program)(G:List (Nat×Obj)):List (Nat×SC)->Prop
 |[]=>True|x::l=>P' P G x.1 x.2/\SL P G l
theorem PL.at{P:Program}{G:List (Nat×Obj)}:∀{l:List (Nat×PC)},PL P G l->∀f c,Ds l f=some c->Z0 P G f c
 |[],_,f,c,h=>by cases h
 |(d,x)::l,⟨i,j⟩,f,c,h=>by
  unfold Ds at h;cases b:aJ d f with
  |true=>rw[b]at h;cases h;rw[<-aB b];exact i
  |false=>rw[b]at h;exact PL.at j f c h
theorem SL.at{P:Program}{G:List (Nat×Obj)}:∀{l:List (Nat×SC)},SL P G l->∀f c,c∈ze l f->P' P G f c
 |[],_,f,c,h=>by cases h
 |(d,x)::l,⟨j,i⟩,f,c,h=>by
  unfold ze at h;cases b:aJ d f with
  |true=>
   rw[b]at h;rcases aN.1 h with rfl|h
   ·rw[<-aB b];exact j
   ·exact SL.at i f c h
  |false=>rw[b]at h;exact SL.at i f c h
theorem X4{P:Program}{G:List (Nat×Obj)}{pc:List (Nat×PC)}{sc:List (Nat×SC)}{k:Bool}{fm:List (Nat×List x6)}(j:PL P G pc)(l:SL P G sc):∀B,GB G B->X6 P ⟨pc,sc,k,fm⟩ B:=fun _B p=>
 ⟨fun f c h=>⟨(j.at f c h).fn,fun S w b a y i=>(j.at f c h).ok S w b a y (i.gs p)⟩,fun f c h=>⟨(l.at f c h).fn,fun S w b E L a d i=>(l.at f c h).ok S w b E L a d (i.gs p)⟩⟩
theorem Ze{P:Program}{G:List (Nat×Obj)}{τ:TE}{Γ:CT}{η:HT}{f:FuncId}{fn:Func}{c:PC}(j:P.follows .mixedOrders=true)(b:P3 P τ)(d:∀B,GB G B->X6 P Γ B)(hf:P.funcs[f]? = some fn)(i:s8 P f)(k:cK c.ash.length fn.ntmps=true)(l:c.cl=false)(q:zw τ Γ η fn c.ash c.rts=c.p):Z0 P G f c:=by have h:=KQ (η:=η) (rts:=c.rts) j b d hf i k;rw[q,<-l]at h;exact h
theorem af{P:Program}{G:List (Nat×Obj)}{τ:TE}{Γ:CT}{η:HT}{f:FuncId}{fn:Func}{c:SC}(j:P.follows .mixedOrders=true)(b:P3 P τ)(d:∀B,GB G B->X6 P Γ B)(hf:P.funcs[f]? = some fn)(i:s8 P f)(k:cK c.I.sl.length fn.ntmps=true)(l:aJ fn.results.toList.length c.nr=true)(q:Ms τ Γ η fn c.I c.outs=c.p):P' P G f c:=by have h:=vK (η:=η) (outs:=c.outs) j b d hf i k l;rw[q]at h;exact h
def j'(x y:Bs):Bool:=x==y
def O'(x y:Bs):Bool:=Op.bytesLess x y
abbrev hS:Sh:=.h .s
abbrev hI:Sh:=.h (.i .i64)
abbrev hB:Sh:=.h .b
def zg:Ty->Bool
 |.i _=>true|.b=>true|.s=>true|_=>false
def Ag:(t:Ty)->den t->Value
 |.i k,x=>.int k (c6 k x)|.b,x=>.bool x|.s,x=>str x|_,_=>undef
def wK:(l:List Ty)->b8 l->LV
 |[],_=>[]|[t],x=>[Ag t x]|t::a::l,x=>Ag t x.1::wK (a::l) x.2
def xK(l:List Ty)(x:b8 l):Value:=match l,x with
 |[t],x=>Ag t x|l,x=>.tuple (wK l x).toArray
section
variable {S:Mem}{E:List EI}{P:Program}{G:List (Nat×Obj)}{f:FuncId}
theorem qV:∀{t:Ty} {x:den t} {u:Value},zg t=true->VR S E (W6 t x) u->u=Ag t x
 |.i k,x,u,_,h=>by have h:[u]=[Value.int k (c6 k x)]:=h;exact(List.cons.inj h).1
 |.b,x,u,_,h=>by have h:[u]=[Value.bool x]:=h;exact(List.cons.inj h).1
 |.s,x,u,_,h=>by have h:[u]=[str x]:=h;exact(List.cons.inj h).1
theorem yyK:∀{t:Ty} {x:den t},zg t=true->a7 t S (Ag t x) x
 |.i _,_,_=>rfl|.b,_,_=>rfl|.s,_,_=>rfl
theorem Ji:∀{l:List Ty} {x:b8 l},l.all zg=true->kg S l (wK l x) x
 |[],_,_=>rfl|[t],x,h=>⟨_,rfl,yyK (by simpa using h)⟩|t::a::l,x,h=>⟨_,_,rfl,yyK (by simp at h;exact h.1),Ji (by simp at h ⊢;exact h.2)⟩
theorem yzK{l:List Ty}{x:b8 l}(h:l.all zg=true):Be S l (xK l x) x:=match l,x,h with
 |[t],x,h=>show a7 t S (Ag t x) x from yyK (by simpa using h)
 |[],_,_=>⟨[],rfl,rfl⟩|t::a::l,x,h=>⟨_,rfl,Ji h⟩
theorem pc1{t1:Ty}{rts:List Ty}{p:den t1->Option (b8 rts)}(i:zg t1=true)(j:rts.all zg=true)(b:s8 P f) (h:∀S w x y,GS G S->Sub S w->p x=some y->Calls P f #[Ag t1 x] w fun e w'=>e = .returned (xK rts y)/\Ext w w'):
  Z0 P G f ⟨[.h t1],rts,p,false⟩:=by
 refine⟨b,fun d k l x y q hS c r=>?_⟩;have c:A2 (VR d []) [W6 t1 x] l:=c;cases c with
 |cons s t=>cases t;rw[qV i s];exact(h d k x y q hS r).mono fun e w' ⟨u,v⟩=>⟨v,_,u,yzK j,fun h=>by cases h⟩
theorem pc2{t1 t2:Ty}{rts:List Ty}{p:den t1->den t2->Option (b8 rts)}(k:zg t1=true)(l:zg t2=true)(q:rts.all zg=true)(b:s8 P f) (h:∀S w d i y,GS G S->Sub S w->p d i=some y->Calls P f #[Ag t1 d,Ag t2 i] w fun e w'=>e = .returned (xK rts y)/\Ext w w'):
  Z0 P G f ⟨[.h t1,.h t2],rts,fun(x:den t1×den t2)=>p x.1 x.2,false⟩:=by
 refine⟨b,fun j r s (x:den t1×den t2) y t hS c u=>?_⟩;have c:A2 (VR j []) [W6 t1 x.1,W6 t2 x.2] s:=c;cases c with
 |cons v z=>
  cases z with
  |cons A C=>cases C;rw[qV k v,qV l A];exact(h j r x.1 x.2 y t hS u).mono fun e w' ⟨D,F⟩=>⟨F,_,D,yzK q,fun h=>by cases h⟩
end
end Go.Proofs.YtopanhneegpgcaaGreatDoor.Am
namespace Go.Proofs.YtopanhneegpgcaaGreatDoor
open Go Go.RowKit
def Kx:Nat->Nat->Bs
 |0,_=>[]|f+1,u=>bif cY u 10 then [UInt8.ofNat (48+u)]else Kx f (u/10)++[UInt8.ofNat (48+u%10)]
theorem rV:∀(f u:Nat),u<10^f->0<f->Kx f u=db u
 |0,_,_,h=>absurd h (Nat.lt_irrefl 0)|f+1,u,h,_=>by
  rw[db];unfold Kx;by_cases b:u<10
  ·rw[show cY u 10=true by rw[eo];simpa using b,dif_pos b];rfl
  ·rw[show cY u 10=false by rw[eo];simpa using b,dif_neg b];have hf:0<f:=by
    rcases eZ f with rfl|hf
    ·rw[aV,Nat.pow_one]at h;omega
    ·exact hf
   rw[rV f (u/10) (by rw[Nat.pow_succ]at h;omega) hf];rfl
def fq(n:Int):Bs:=bif decide (n<0)then 45::Kx 20 n.natAbs else Kx 20 n.toNat
def yK(n:Int):Option Bs:=bif decide (-9223372036854775808<=n)&&decide (n<=9223372036854775807)then some (fq n)else none
theorem Lx{n:Int}(c:-9223372036854775808<=n)(d:n<=9223372036854775807):fq n=Lib.itoa n:=by
 unfold fq Lib.itoa;by_cases b:n<0
 ·rw[zJ b,zA b,zF,rV _ _ (by omega) (by omega)]
 ·rw[zI b,zB b,zH,rV _ _ (by omega) (by omega)]
theorem GV.tab {S : Mem} {w : World} (h : GV S) (hS : Sub S w) : Lib.TabIs aA w "internal/strconv.uint64pow10" .u64 Lib.pow10Tab := by
 obtain⟨t,c,h⟩:=h.tb;have b : Tryz.prog.globalNamed "internal/strconv.uint64pow10" = some 3 := by kernel_rfl
 unfold Lib.TabIs World.var?;rw[b,Option.bind_some,hS _ _ h];rfl
theorem Mx{S:Mem}{w:World}(hS:Sub S w)(d:GV S){c:Int}{r:Bs}(b:yK c=some r):Calls aA 68 #[.int .i64 c] w fun e w'=>e = .returned (str r)/\Ext w w':=by unfold yK at b;obtain⟨h,b⟩:=Am.r7 b;simp only[aI,zE]at h;cases b;refine(Tryz.strconv_Itoa c h.1 h.2 w (d.tab hS)).mono ?_;rintro _ w' ⟨rfl,k,os,rfl⟩;rw[Lx h.1 h.2];exact⟨rfl,⟨rfl,rfl,rfl,by show w.heap.size<=(w.heap++os).size;rw[Array.size_append];omega,fun j i=>by show(w.heap++os)[j]? = _;rw[Array.getElem?_append_left i]⟩⟩
def NA(s cs:Bs):Option Bs:=bif decide (s.length<=9223372036854775807)&&decide (cs.length<4294967281)&&cs.all (fun b=>decide (b.toNat<128))then some (Lib.trimS s cs)else none
theorem zK{S:Mem}{w:World}(_:Sub S w){d i r:Bs}(c:NA d i=some r):Calls aA 164 #[str d,str i] w fun e w'=>e = .returned (str r)/\Ext w w':=by
 unfold NA at c;obtain⟨h,c⟩:=Am.r7 c;simp only[aI,zE]at h;cases c
 exact Any.strings_Trim_laid Tryz.oB (by kernel_rfl) ⟨d.toArray⟩ ⟨i.toArray⟩ w (by rw[Lr];exact h.1.1) (by rw[Lr];exact h.1.2) (fun j b k=>by
  have:=bR.1 h.2 b (List.mem_of_getElem? k)
  simpa using this)
def UD(s sep:Bs):Option (Bs×Bs×Bool):=bif decide (s.length<4294967281)then some (Lib.cut s sep)else none
theorem LQ{S:Mem}{w:World}(hS:Sub S w)(i:GV S){c d:Bs}{r:Bs×Bs×Bool}(b:UD c d=some r):Calls aA 59 #[str c,str d] w fun e w'=>e = .returned (.tuple #[str (r.1),str (r.2.1),.bool (r.2.2)])/\Ext w w':=by unfold UD at b;obtain⟨h,b⟩:=Am.r7 b;simp only[zE]at h;cases b;obtain⟨m,j⟩:=i.cell hS;refine(Tryz.strings_Cut ⟨c.toArray⟩ ⟨d.toArray⟩ m w (by rw[Lr];exact h) j).mono ?_;rintro _ w' ⟨rfl,n,rfl⟩;exact⟨rfl,rfl,rfl,rfl,aL _,fun _ _=>rfl⟩
def gq(s:Bs):Option (Int×Bool):=bif decide (s.length<=9223372036854775806)then(match Lib.atoiAll s with
 |.ok v=>some (v,false)|_=>none)else none
theorem AK{S:Mem}{w:World}(_:Sub S w){c:Bs}{r:Int×Bool}(b:gq c=some r):
  r.2=false/\Calls aA 165 #[str c] w fun e w'=>e = .returned (.tuple #[.int .i64 r.1,.nilIface])/\Ext w w':=by
 unfold gq at b;obtain⟨h,b⟩:=Am.r7 b;simp only[zE]at h;split at b
 ·rename_i v d;cases b;refine⟨rfl,(Tryz.strconv_Atoi_ok ⟨c.toArray⟩ (by rw[Lr];exact h) v d w).mono ?_⟩;rintro _ w' ⟨rfl,rfl|⟨t,rfl⟩⟩
  ·exact⟨rfl,Ext.refl _⟩
  ·exact⟨rfl,⟨rfl,rfl,rfl,by rw[Lib.bytesWorld_size];omega,fun j i=>Lib.bytesWorld_at_old w _ _ j i⟩⟩
 ·cases b
section
variable {α β γ σ:Type}
theorem MQ(p:UInt8->Bool)(h:(List.range 256).all (fun n=>p (UInt8.ofNat n))=true)(b:UInt8):p b=true:=by have:=bR.1 h b.toNat (by have:=b.toNat_lt;simp only[List.mem_range];omega);simpa using this
theorem p'(x:α)(f:α->Option β):(some x).bind f=f x:=rfl
theorem VD{o:Option α}{a:α}{f:α->Option β}(h:o=some a):o.bind f=f a:=by rw[h];rfl
theorem oe{x:Int}(h:-9223372036854775808<=x)(b:x<=9223372036854775807):P0 x=x:=ZY h (by omega)
theorem Y6{l:List α}{i:Nat}{j:Int}(b:j=(i:Int))(h:i<l.length):idx l j=some l[i]:=by subst b;rw[YB];exact aH h
theorem dm{c:Bool}(h:c=true):o6 c=some ():=by subst h;rfl
theorem X5{p:Prop}[Decidable p]{a b:α}(h:p):(bif decide p then a else b)=a:=by simp[h]
theorem l6{p:Prop}[Decidable p]{a b:α}(h:¬p):(bif decide p then a else b)=b:=by simp[h]
theorem Ki{body:σ->Option (σ⊕β)}(st:Nat->σ)(n:Nat)(i:n<1099511627776)(b:β)(h:∀k,k<n->body (st k)=some (.inl (st (k+1))))(c:body (st n)=some (.inr b)):iter body (st 0)=some b:=by
 have key:∀j k,k<=n->n-k<j->X9 body j (st k)=some b:=by
  intro j;induction j with
  |zero=>intro k _ h;omega|succ j d=>
   intro k l p;by_cases e:k=n
   ·subst e;exact Ba c
   ·rw[sb (h k (by omega))];exact d (k+1) (by omega) (by omega)
 exact key FU 0 (by omega) (by unfold FU;omega)
end
theorem yyL(u:Nat):db u=if u<10 then [UInt8.ofNat (48+u)]else db (u/10)++[UInt8.ofNat (48+u%10)]:=by
 rw[db];by_cases h:u<10
 ·rw[dif_pos h,zJ h]
 ·rw[dif_neg h,zI h]
theorem tV:∀(k u:Nat),0<k->u<10^k->(db u).length<=k
 |0,_,h,_=>absurd h (Nat.lt_irrefl 0)|k+1,u,_,h=>by
  rw[yyL];by_cases b:u<10
  ·rw[zJ b];simp
  ·rw[zI b];have hk:0<k:=by
    rcases eZ k with rfl|hk
    ·rw[aV,Nat.pow_one]at h;omega
    ·exact hk
   have:=tV k (u/10) hk (by rw[Nat.pow_succ]at h;omega);simp;omega
theorem xdG(u:Nat)(b:u<9223372036854775808):yK (u:Int)=some (db u):=by unfold yK fq;rw[zA (show(-9223372036854775808:Int)<=(u:Int) by omega),zA (show(u:Int)<=9223372036854775807 by omega)];simp only[Bool.and_self,zF];rw[zB (show ¬(u:Int)<0 by omega)];simp only[zH,Int.toNat_natCast];rw[rV 20 u (by omega) (by decide)]
theorem xcJ{p:UInt8->Bool}:∀{l:Bs},(∀b∈l,p b=true)->l.dropWhile p=[]
 |[],_=>rfl|b::l,h=>by rw[gH,zJ (h b aO)];exact xcJ fun b c=>h b (aM _ c)
def pa:kE->Bs
 |[]=>[]|t::b=>db t.length++58::(t++pa b)
def NQ(b:UInt8):Bool:=decide (48<=b.toNat)&&decide (b.toNat<=57)
theorem yvQ{p:UInt8->Bool}:∀{l:Bs},l.dropWhile p=[]->∀b∈l,p b=true
 |[],_,b,d=>by cases d
 |c::l,h,b,d=>by
  rw[gH]at h;split at h
  ·rename_i i;rcases aN.1 d with rfl|d
   ·exact i
   ·exact yvQ h b d
  ·cases h
theorem ytB{p:UInt8->Bool}:∀{l:Bs} {b:UInt8},b∈l->p b=false->b∈l.dropWhile p
 |c::l,b,d,hp=>by
  rw[gH];split
  ·rename_i h;rcases aN.1 d with rfl|d
   ·rw[hp]at h;cases h
   ·exact ytB d hp
  ·exact d
theorem xbA{l cs:Bs}:Lib.trimS l cs=[]↔∀b∈l,cs.contains b=true:=by
 unfold Lib.trimS Lib.trimLeftS Lib.trimRightS;constructor
 ·intro h b c;cases d:cs.contains b with
  |true=>rfl|false=>have j:=ytB (iS.2 c) d;have i:=yvQ h b (iS.2 j);rw[d]at i;cases i
 ·intro h;rw[xcJ (l:=l.reverse) fun b c=>h b (iS.1 c)];rfl
section
attribute [local irreducible] wpList vd Code.wp Calls Code.rounds
variable {S:Mem}{w:World}
theorem OQ:Tryz.prog.underlying 101=some (.pointer 104):=by kernel_rfl
theorem bu2:Tryz.prog.underlying 234=some .unsafePointer:=by kernel_rfl
theorem bi1:(Tryz.prog.info? 104).map (·.size)=some 2:=by kernel_rfl
theorem bl1:liesAt aA Tryz.prog.depth 104 (2/Tryz.prog.cellsOf 104) 0 104 1=true:=by kernel_rfl
theorem uV:Kk aA 104 0 0:=fun _ _ _=>by kernel_rfl
theorem AN:Kk aA 104 1 1:=fun _ _ _=>by kernel_rfl
theorem bto:Xc aA 101:=⟨fun _=>by kernel_rfl,fun _=>by kernel_rfl⟩
theorem xt:Xc aA 102:=⟨fun _=>by kernel_rfl,fun _=>by kernel_rfl⟩
theorem btz:Nf aA 101 1:=fun _=>by kernel_rfl
theorem BK(x:Value)(w:World):(callFunc 241 [x].toArray).run aA w = .ok (.value x) w:=by have h:=run_callFunc_extern (P:=aA) (w:=w) (args:=#[x]) func241 (by kernel_rfl) (by kernel_rfl) (by kernel_rfl) (e:=Extern.AbiNoEscape.same) (by kernel_rfl);show(callFunc 241 #[x]).run aA w=_;rw[h,Lib.run_noEscape];rfl
def zuH(b:Bs):Option Bs:=some b
section
variable {P:Program}{w:World}{B:r9}{S:Mem}{L:List Q0}{e:Operand->Value}{dst:Option Tmp}{g:Option (Nat×Bool)}{ty:TypeId}{pos:String}{aft:Array Edge}{x y:Operand}{T T1 T2 T':TypeId}{a:Addr}
theorem CK(b:P.underlying T=some (.pointer T1))(c:e x = .pointer none)(i:e y = .pointer none):(execOp e ⟨dst,.binOp .eql T x y T',ty,pos,aft,g⟩).run P w = .ok (.value (.bool true)) w:=by
 have h:(Op.equal T (.pointer none) (.pointer none)).run P w = .ok true w:=by
  have h:∀d,(Qd (d+1) T (.pointer none) (.pointer none)).run P w = .ok true w:=fun d=>by simp[Qd,Go.underlying,b]
  exact h 9999
 simp[execOp,eqGuard,binOp,c,i,h]
theorem DK(b:P.underlying T=some (.pointer T1))(c:e x = .pointer (some a))(i:e y = .pointer none):(execOp e ⟨dst,.binOp .eql T x y T',ty,pos,aft,g⟩).run P w = .ok (.value (.bool false)) w:=by
 have h:(Op.equal T (.pointer (some a)) (.pointer none)).run P w = .ok false w:=by
  have h:∀d,(Qd (d+1) T (.pointer (some a)) (.pointer none)).run P w = .ok false w:=fun d=>by simp[Qd,Go.underlying,b]
  exact h 9999
 simp[execOp,eqGuard,binOp,c,i,h]
theorem EK{j:TypeInfo}(b:P.underlying T=some (.pointer T1))(c:P.info? T1=some j)(d:e x = .pointer (some a))(i:e y = .pointer (some a)):(execOp e ⟨dst,.binOp .neq T x y T',ty,pos,aft,g⟩).run P w = .ok (.value (.bool false)) w:=by have h:=Lib.run_neq_ptr_same (P:=P) w a b c;simp[execOp,eqGuard,d,i,h]
end
theorem ymP{b:Nat}{z:Bs}{i:Value}{d p:LV}{q:Value}(H:HS ⟨S,U5 [.N' b ([q]++([i])) 104,.H' (i) (z).length 1 d p 5],w⟩ S w [.N' b ([q]++([i])) 104,.H' (i) (z).length 1 d p 5]) (A:RL S d z) (K:BA b q) {r:Bs} (R:zuH z=some r):Calls aA 167 #[.pointer (some ⟨b,0,none⟩)] w fun e w'=>∃(S2:Mem) (C:Value) (s D:LV) (F:Value),e = .returned (.tuple #[])/\HS ⟨S,U5 [.N' b ([q]++([i])) 104,.H' (i) (z).length 1 d p 5],w⟩ S2 w' [.N' b ([F]++([C])) 104,.H' (C) (r).length 1 s D 5]/\RL S2 s r/\BA b F:=by
 obtain rfl:=ka R;obtain⟨j,M,N⟩:=Option.map_eq_some_iff.1 bi1;have I:w.heap[b]? = some (.cells ([q]++([i])).toArray 104 (0,0)):=H.own 0 _ rfl;have J:w.shape? (⟨b,0,none⟩:Addr).block=some (104,2):=by simp[World.shape?,I]
 refine enter (n:=20) func167 rfl rfl rfl ?_;rcases K with rfl|rfl
 ·refine wp_seq_k ?_;intro U t;refine wp_region_lit ?_;refine R9 (yh (v:=.pointer (some ⟨b,0,none⟩)) rfl) ?_;refine R9 (Xr rfl) ?_;refine R9 (Ju uV rfl) ?_;refine R9 (IA (v:=.pointer none) bto H rfl (k:=0) rfl rfl) ?_;refine R9 (CK OQ rfl rfl) ?_;refine wpList_nil ?_;refine Kr ?_;refine t _ _ ?_;refine II rfl rfl ?_;refine wp_region_lit ?_;refine R9 (yh (v:=.pointer (some ⟨b,0,none⟩)) rfl) ?_;refine R9 (yh (v:=.pointer (some ⟨b,0,none⟩)) rfl) ?_
  refine R9 (c:=.pointer (some ⟨b,0,none⟩)) (by
   have h:=Lib.run_to_unsafe (P:=aA) w ⟨b,0,none⟩ OQ bu2 M (by rw[N];decide) J (Nat.zero_lt_succ 1);simp only[execOp]
   exact(by rw[La];erw [h];rfl)) ?_
  refine HB (l:=[.pointer (some ⟨b,0,none⟩)]) rfl (BK _ _) ?_
  refine R9 (c:=.pointer (some ⟨b,0,none⟩)) (by
   have h:=Lib.run_from_unsafe (P:=aA) w ⟨b,0,none⟩ bu2 OQ M J bl1;simp only[execOp]
   exact(by rw[La];erw [h];rfl)) ?_
  refine R9 (Xr rfl) ?_;refine R9 (Ju uV rfl) ?_;refine vG (YT (k:=0) (v:=.pointer (some ⟨b,0,none⟩)) (l:=[.pointer (some ⟨b,0,none⟩)]) btz H rfl rfl rfl (cells_one rfl) rfl (fun u V=>bR.1 (rfl:([Value.pointer (some ⟨b,0,none⟩)]).all (·.oneCell')=true) u V) rfl) ?_;clear H;intro W H;refine wpList_nil ?_;refine qP rfl ?_;exact⟨S,i,d,p,.pointer (some ⟨b,0,none⟩),rfl,H,A,.inr rfl⟩
 ·refine wp_seq_k ?_;intro U t;refine wp_region_lit ?_;refine R9 (yh (v:=.pointer (some ⟨b,0,none⟩)) rfl) ?_;refine R9 (Xr rfl) ?_;refine R9 (Ju uV rfl) ?_;refine R9 (IA (v:=.pointer (some ⟨b,0,none⟩)) bto H rfl (k:=0) rfl rfl) ?_;refine R9 (DK OQ rfl rfl) ?_;refine wpList_nil ?_;refine Kr ?_;refine t _ _ ?_;refine po rfl rfl ?_;refine wp_seq_k ?_;intro X O;refine wp_region_lit ?_;refine R9 (yh (v:=.pointer (some ⟨b,0,none⟩)) rfl) ?_;refine R9 (Xr rfl) ?_;refine R9 (Ju uV rfl) ?_;refine R9 (IA (v:=.pointer (some ⟨b,0,none⟩)) bto H rfl (k:=0) rfl rfl) ?_;refine R9 (yh (v:=.pointer (some ⟨b,0,none⟩)) rfl) ?_;refine R9 (EK OQ M rfl rfl) ?_;refine wpList_nil ?_;refine Kr ?_;refine O _ _ ?_;refine po rfl rfl ?_;refine wp_skip ?_;refine qP rfl ?_;exact⟨S,i,d,p,.pointer (some ⟨b,0,none⟩),rfl,H,A,.inr rfl⟩
theorem bus:Tryz.prog.underlying 102=some (.slice 5):=by kernel_rfl
theorem bup:Tryz.prog.underlying 179=some (.pointer 5):=by kernel_rfl
theorem buc:Tryz.prog.cellsOf 5=1:=by kernel_rfl
section
variable {P:Program}{w:World}{e:Operand->Value}{dst:Option Tmp}{g:Option (Nat×Bool)}{ty:TypeId}{pos:String}{aft:Array Edge}{x y:Operand}{T T1:TypeId}
theorem Nx{r:Value}{v:Value}{w':World}(b:e x=v)(h:(Builtin.unsafeSliceData_ #[T] ty #[v]).run P w = .ok r w'):(execOp e ⟨dst,.call ⟨.builtin .unsafeSliceData,#[x],#[T]⟩,ty,pos,aft,g⟩).run P w = .ok (.value r) w':=by simp[execOp,resolve,invoke,builtin,b,h]
theorem iq{r:Value}{v u:Value}{w':World}(b:e x=v)(c:e y=u)(h:(Builtin.unsafeString_ #[T,T1] ty #[v,u]).run P w = .ok r w'):(execOp e ⟨dst,.call ⟨.builtin .unsafeString,#[x,y],#[T,T1]⟩,ty,pos,aft,g⟩).run P w = .ok (.value r) w':=by simp[execOp,resolve,invoke,builtin,b,c,h]
theorem Ox:∀{L:List Q0} {k:Nat} {x:Q0},Me (Za L k x) k=Me L k
 |[],_,_=>rfl|_::_,0,_=>rfl|y::l,k+1,x=>by simp only[Za,Me,Ox (L:=l) (k:=k)]
end
theorem yrD{B:r9}{S:Mem}{w:World}{L:List Q0}{k1 k2 b:Nat}{a v:Value}{cs rs:LV}{xs:Bs}(H:HS B S w L)(C:Y3 L k1=some (.N' b ([a]++([v])) 104))(D:Y3 L k2=some (.H' v xs.length 1 cs rs 5))(h0:RL S cs xs)(hl:xs.length<=9223372036854775807):Calls aA 69 #[.pointer (some ⟨b,0,none⟩)] w fun e w'=>e = .returned (str xs)/\HS B S w' (Me L k2):=by
 have F:=H.own k2 _ D;refine enter (n:=14) func69 rfl rfl rfl ?_;rcases F with⟨rfl,hn,I,hrs⟩|⟨k,c,W,rfl,hnc,J,X,l,hfz⟩
 ·obtain rfl:xs=[]:=aW hn;refine wp_seq_k ?_;intro Y p;refine wp_region_lit ?_;refine R9 (IB (v:=str ([]:Bs)) rfl) ?_;refine wpList_nil ?_;refine Kr ?_;refine p _ _ ?_;refine wp_seq_k ?_;intro Z q;apply VY 10 (kinds []) rfl rfl (by kernel_rfl);intro vs;simp only[lZ,mZ,nZ,oZ];replace H:=H.drew;refine Fb (fun w d=>yh (v:=.pointer (some ⟨b,0,none⟩)) rfl) rfl rfl ?_;refine Fb (fun w d=>Xr rfl) rfl rfl ?_;refine Fb (fun w d=>Ju AN rfl) rfl rfl ?_;refine Fb (fun w d=>IA (v:=.slice none 0 0) xt (H.ext d) rfl C rfl) rfl rfl ?_;refine Fb (fun w d=>Nx (r:=.pointer none) rfl (Lib.run_unsafeSliceData_nil _ _ _ _ _)) rfl rfl ?_;refine Fb (fun w d=>yh (v:=.pointer (some ⟨b,0,none⟩)) rfl) rfl rfl ?_;refine Fb (fun w d=>Xr rfl) rfl rfl ?_;refine Fb (fun w d=>Ju AN rfl) rfl rfl ?_;refine Fb (fun w d=>IA (v:=.slice none 0 0) xt (H.ext d) rfl C rfl) rfl rfl ?_;refine Fb (fun w d=>Wk bus rfl (H.ext d) D rfl) rfl rfl ?_;refine Av (fun u d z K=>?_);replace H:=H.ext d;clear d z K;refine R9 (c:=str ([]:Bs)) (iq rfl rfl (Lib.run_unsafeString_none _ _ _ _ _)) ?_;replace H:=H.rm k2;refine R9 (IB (v:=str ([]:Bs)) rfl) ?_;refine wpList_nil ?_;refine OT ?_;refine Kr ?_;refine q _ _ ?_;refine wp_ret ?_;refine RT rfl (JI (v:=str ([]:Bs)) rfl) ?_;exact⟨rfl,H⟩
 ·by_cases hc:c=0
  ·subst hc;obtain rfl:xs=[]:=aW (by omega);refine wp_seq_k ?_;intro Y p;refine wp_region_lit ?_;refine R9 (IB (v:=str ([]:Bs)) rfl) ?_;refine wpList_nil ?_;refine Kr ?_;refine p _ _ ?_;refine wp_seq_k ?_;intro Z q;apply VY 10 (kinds [(4,.inr (fun v _=>∃a,v = .pointer (some a)))]) rfl rfl (by kernel_rfl);intro vs;simp only[lZ,mZ,nZ,oZ];replace H:=H.drew;refine Fb (fun w d=>yh (v:=.pointer (some ⟨b,0,none⟩)) rfl) rfl rfl ?_;refine Fb (fun w d=>Xr rfl) rfl rfl ?_;refine Fb (fun w d=>Ju AN rfl) rfl rfl ?_;refine Fb (fun w d=>IA (v:=sl k 0 0 0) xt (H.ext d) rfl C rfl) rfl rfl ?_
   refine AB (φ:=fun v _=>∃a,v = .pointer (some a)) rfl rfl (fun _ _ _ h _=>h) rfl (fun h=>by cases h) (fun w d z R hR=>by
    have A:w.shape? (⟨k,0,none⟩:Addr).block=some (5,(cs++rs).toArray.size):=by
     have t:w.heap[k]? = some (.cells (cs++rs).toArray 5 W):=by rw[d.block k (lt_of_heap l)];exact l
     simp[World.shape?,t]
    have s:=Lib.run_unsafeSliceData_zero (P:=aA) w #[102] 179 5 bup ⟨k,0,none⟩ 0 _ A;rw[fo,Nx rfl s,yxK]
    exact hR (.pointer (some ⟨w.heap.size,0,none⟩)) (w.alloc (.view ⟨k,0,none⟩ 5)) (Ext.alloc w _) ⟨_,rfl⟩ (fun h=>by cases h)) ?_
   rw[ZF];refine Fb (fun w d=>yh (v:=.pointer (some ⟨b,0,none⟩)) rfl) rfl rfl ?_;refine Fb (fun w d=>Xr rfl) rfl rfl ?_;refine Fb (fun w d=>Ju AN rfl) rfl rfl ?_;refine Fb (fun w d=>IA (v:=sl k 0 0 0) xt (H.ext d) rfl C rfl) rfl rfl ?_;refine Fb (fun w d=>Wk bus rfl (H.ext d) D rfl) rfl rfl ?_;refine Av (fun u d z K=>?_);obtain⟨ad,N⟩:=vv z 4 rfl rfl;replace H:=H.ext d;clear d z K;refine R9 (c:=str ([]:Bs)) (iq (by exact N) rfl (Lib.run_unsafeString_none _ _ _ _ _)) ?_;replace H:=H.rm k2;refine R9 (IB (v:=str ([]:Bs)) rfl) ?_;refine wpList_nil ?_;refine OT ?_;refine Kr ?_;refine q _ _ ?_;refine wp_ret ?_;refine RT rfl (JI (v:=str ([]:Bs)) rfl) ?_;exact⟨rfl,H⟩
  ·skip
   refine wp_seq_k ?_;intro Y p;refine wp_region_lit ?_;refine R9 (IB (v:=str ([]:Bs)) rfl) ?_;refine wpList_nil ?_;refine Kr ?_;refine p _ _ ?_;refine wp_seq_k ?_;intro Z q;apply VY 10 (kinds []) rfl rfl (by kernel_rfl);intro vs;simp only[lZ,mZ,nZ,oZ];replace H:=H.drew;refine Fb (fun w d=>yh (v:=.pointer (some ⟨b,0,none⟩)) rfl) rfl rfl ?_;refine Fb (fun w d=>Xr rfl) rfl rfl ?_;refine Fb (fun w d=>Ju AN rfl) rfl rfl ?_;refine Fb (fun w d=>IA (v:=sl k 0 xs.length c) xt (H.ext d) rfl C rfl) rfl rfl ?_;refine Fb (fun w d=>Nx (r:=.pointer (some ⟨k,0,none⟩)) rfl (Lib.run_unsafeSliceData_row _ _ _ _ _ _ hc)) rfl rfl ?_;refine Fb (fun w d=>yh (v:=.pointer (some ⟨b,0,none⟩)) rfl) rfl rfl ?_;refine Fb (fun w d=>Xr rfl) rfl rfl ?_;refine Fb (fun w d=>Ju AN rfl) rfl rfl ?_;refine Fb (fun w d=>IA (v:=sl k 0 xs.length c) xt (H.ext d) rfl C rfl) rfl rfl ?_;refine Fb (fun w d=>Wk bus rfl (H.ext d) D rfl) rfl rfl ?_;refine Av (fun u d z K=>?_);have t:u.heap[k]? = some (.cells (cs++rs).toArray 5 W):=by rw[d.block k (lt_of_heap l)];exact l
   replace H:=H.ext d;clear d z K;refine JP (c:=str xs) (φ:=fun w'=>HS B S w' (Me L k2)) ?_ ?_
   ·by_cases M:xs=[]
    ·subst M;exact⟨u,iq rfl rfl (Lib.run_unsafeString_none _ _ _ _ _),H.rm k2⟩
    ·have A:u.shape? k=some (5,(cs++rs).toArray.size):=by simp[World.shape?,t]
     have I:=RL.Uk h0;have O:xs.length<=(cs++rs).length:=by rw[aD,J];omega
     have s:=Lib.run_unsafeString_row (P:=aA) u 179 3 9 5 bup buc k _ A xs M (by simpa using O) hl (fun j x hj=>by
      rw[yd,yk t,aV,aF (by have:=(aC.1 hj).1;omega),I]
      exact SB hj)
     refine⟨_,iq rfl rfl s,?_⟩
     have H2:=H.Gb (w':=u.freeze ⟨k,0,none⟩ xs.length) (r':=.H' (.slice none 0 0) 0 1 [] [] 5) D (by unfold World.freeze;split<;>simp) (by unfold World.freeze;split<;>rfl) (by unfold World.freeze;split<;>rfl) (by unfold World.freeze;split<;>rfl) (fun i hi U=>by
      have V:k≠i:=fun e=>U (by rw[e];rfl);unfold World.freeze;split
      ·rfl
      ·simp[Array.getElem?_modify,V]) (.inl ⟨rfl,rfl,rfl,rfl⟩) (fun b hb=>by cases hb)
     have H3:=H2.rm k2;rw[Ox]at H3;exact H3
   clear H;intro w3 H;refine R9 (IB (v:=str xs) rfl) ?_;refine wpList_nil ?_;refine OT ?_;refine Kr ?_;refine q _ _ ?_;refine wp_ret ?_;refine RT rfl (JI (v:=str xs) rfl) ?_;exact⟨rfl,H⟩
theorem to9:Xc aA 9:=⟨fun _=>by kernel_rfl,fun _=>by kernel_rfl⟩
theorem PQ:Xc aA 102:=⟨fun _=>by kernel_rfl,fun _=>by kernel_rfl⟩
theorem QQ:DI aA 104 (.agg #[.pointer none,.slice none 0 0]):=fun _=>by kernel_rfl
theorem u9:Tryz.prog.underlying 9=some .string:=by kernel_rfl
theorem u22:Tryz.prog.underlying 22=some (.slice 9):=by kernel_rfl
theorem is67:s8 aA 67:=Y5 func67 (by kernel_rfl) (by kernel_rfl)
theorem is68:s8 aA 68:=Y5 H6 (by kernel_rfl) (by kernel_rfl)
theorem is69:s8 aA 69:=Y5 func69 (by kernel_rfl) (by kernel_rfl)
theorem RQ:s8 aA 167:=Y5 func167 (by kernel_rfl) (by kernel_rfl)
theorem jq:Kk aA 104 1 1:=fun _ _ _=>by kernel_rfl
theorem SQ:Qe aA 102 5 (.int .u8 0) [.int .u8 0] 1 1:=Qe.mk' (by kernel_rfl) (by kernel_rfl) rfl rfl rfl rfl
theorem tsz9:Nf aA 9 1:=fun _=>by kernel_rfl
theorem FK:Nf aA 102 1:=fun _=>by kernel_rfl
def vV(c:Bs)(b:Bs):Option (Int×Bs):=
 aR (zuH c) fun d=>aR (X0 d b) fun h=>some ((((b).length:Int),h))
theorem yjR{b:Nat}{j:Bs}{c:Value}{d h:LV}{i:Value}(H:HS ⟨S,U5 [.N' b (([i]++([c]))) 104,.H' (c) (j).length 1 d h 5],w⟩ S w [.N' b (([i]++([c]))) 104,.H' (c) (j).length 1 d h 5])(X:RL S d j)(Y:BA b i){s:Bs}{r:Int×Bs}(D:vV j s=some r):Calls aA 67 #[.pointer (some ⟨b,0,none⟩),str (s)] w fun e w'=>∃(S2:Mem) (F:Value) (t I:LV) (J:Value),e = .returned (.tuple #[.int .i64 (r.1),.nilIface])/\HS ⟨S,U5 [.N' b (([i]++([c]))) 104,.H' (c) (j).length 1 d h 5],w⟩ S2 w' [.N' b (([J]++([F]))) 104,.H' (F) (r.2).length 1 t I 5]/\RL S2 t r.2/\BA b J:=by refine enter (n:=19) func67 rfl rfl rfl ?_;unfold vV at D;refine sr ?_;intro K1 K;refine Bh (v:=.int .i64 (0)) rfl ?_;refine Bh (v:=.nilIface) rfl ?_;refine xk K ?_;clear K;refine sr ?_;intro K2 M;refine ve (v:=.pointer (some ⟨b,0,none⟩)) rfl ?_;obtain⟨y1,e1,D⟩:=x9 D;refine Jf (l:=[.pointer (some ⟨b,0,none⟩)]) RQ rfl ?_;refine(ymP (H.hand [0,1] rfl) X Y e1).mono ?_;rintro _ w1 ⟨W,p,O,R,q,rfl,H2,Z,pg4⟩;obtain⟨H1,hle1⟩:=H.frame [0,1] [] rfl H2;clear H H2;have H:=H1;clear H1;replace H:HS ⟨S,U5 [.N' b (([i]++([c]))) 104,.H' (c) (j).length 1 d h 5],w⟩ W w1 [.N' b (([q]++([p]))) 104,.H' (p) (y1).length 1 O R 5]:=H;refine xk M ?_;clear M;refine sr ?_;intro K3 U;refine ve (v:=.pointer (some ⟨b,0,none⟩)) rfl ?_;refine ve (v:=.pointer (some ⟨b,0,none⟩)) rfl ?_;refine R9 (Xr rfl) ?_;refine R9 (Ju jq rfl) ?_;refine R9 (IA (v:=p) PQ H rfl (k:=0) rfl rfl) ?_;refine ve (v:=str (s)) rfl ?_;obtain⟨y2,e2,D⟩:=x9 D;refine AP (Ur (k:=1) (l:=s) SQ u9 H rfl rfl Z rfl e2) ?_;clear H;rintro w2 z ⟨A,C,H,g1⟩;replace H:HS ⟨S,U5 [.N' b (([i]++([c]))) 104,.H' (c) (j).length 1 d h 5],w⟩ W w2 [.N' b (([q]++([p]))) 104,.H' (z) (y2).length 1 A C 5]:=H;refine R9 (Xr rfl) ?_;refine R9 (Ju jq rfl) ?_;refine vG (YT (k:=0) (v:=z) (l:=[z]) FK H rfl rfl rfl (cells_one (HS.Rv H (k:=1) rfl)) rfl (fun u hu=>by rw[List.mem_singleton]at hu;rw[hu];exact HS.Rv H (k:=1) rfl) rfl) ?_;clear H;intro w3 H;replace H:HS ⟨S,U5 [.N' b (([i]++([c]))) 104,.H' (c) (j).length 1 d h 5],w⟩ W w3 [.N' b (([q]++([z]))) 104,.H' (z) (y2).length 1 A C 5]:=H;refine xk U ?_;clear U;refine sr ?_;intro K4 V;refine ve (v:=str (s)) rfl ?_;refine R9 (Qk (N:=(s).length) u9 rfl rfl) ?_;refine Bh (v:=.int .i64 (((s).length:Int))) rfl ?_;refine Bh (v:=.nilIface) rfl ?_;refine xk V ?_;clear V;refine wp_ret ?_;obtain rfl:=ka D;refine e_2 rfl (JI (v:=.int .i64 (((s).length:Int))) rfl) (JI (v:=.nilIface) rfl) ?_;replace H:HS ⟨S,U5 [.N' b (([i]++([c]))) 104,.H' (c) (j).length 1 d h 5],w⟩ W w3 [.N' b (([q]++([z]))) 104,.H' (z) (y2).length 1 A C 5]:=H;exact⟨_,_,_,_,_,rfl,H,g1,pg4⟩
def BN(c:kE)(b:Int×Bs):Option ((Int×Bs)⊕(Bs)):=
 bif decide (b.1<((c).length:Int))then(aR (idx c b.1) fun d=>aR (yK ((d).length:Int)) fun h=>aR (X0 h ([58]:Bs)) fun i=>aR (X0 i d) fun j=>aR (vV b.2 j) fun k=>some (.inl (((P0 (b.1+1)),k.2))))else(some (.inr (b.2)))
def CN(b:kE):Option (Bs):=
 aR (aR (iter (BN b) ((0,([]:Bs)))) (fun e=>some (e))) (fun t1=>aR (o6 (decide ((t1).length<=68719476736))) fun c=>some (t1))
theorem yxM(hS:Sub S w)(D:GV S){q:Value}{x0:kE}(c:x8 S q x0){r:Bs}(hF:CN x0=some r):Calls aA 22 #[q] w fun e w'=>e = .returned (str (r))/\Ext w w':=by
 refine enter (n:=21) func22 rfl rfl rfl ?_;have H:=HS.start hS;unfold CN at hF;refine sr ?_;intro K1 O;refine Bh (v:=str (([]:Bs))) rfl ?_;refine xk O ?_;clear O;refine sr ?_;intro K2 R;refine BP (vZ (l:=([Value.pointer none]++([Value.slice none 0 0]))) H QQ rfl) ?_;clear H;intro w1 h H;refine xk R ?_;clear R;refine wp_seq_k ?_;intro K3 hK3;refine uG fun m1 k1=>?_;obtain⟨t1,hE1,F⟩:=x9 hF;have J1:∀(a2:Value) (v2:Value) (I U:LV) (V:Mem) (m4:FM) (w5:World),(∀t,has [5,6,7,8,9,10,11,12,13,14,15,16,17,18,19] t=false->look m4 t=look m1 t)->Mem.le S V->HS ⟨S,[],w⟩ V w5 [.H' (v2) (t1).length 1 I U 5,.N' h (([a2]++([v2]))) 104]->BA h a2->RL V I t1->K3 (fr 21 m4) w5:=by clear H;intro a2 v2 I U V m4 w5 k5 z H g4 g5;replace D:=GV.mono D z;replace c:=x8.mono c z;have q5:look m4 3 = .pointer (some ⟨h,0,none⟩):=(k5 3 rfl).trans (k1 3);refine hK3 _ _ ?_;refine sr ?_;intro K9 W;obtain⟨y6,e6,F⟩:=x9 F;refine Jf (l:=[.pointer (some ⟨h,0,none⟩)]) is69 (zZ q5 Ih) ?_;refine(yrD (k1:=1) (k2:=0) H rfl rfl g5 (Nat.le_trans (zD (Kv e6)) (by decide))).mono ?_;clear H;rintro _ w6 ⟨rfl,H⟩;replace H:HS ⟨S,[],w⟩ V w6 [.N' h (([a2]++([v2]))) 104]:=H;refine Bh (v:=str (t1)) rfl ?_;refine xk W ?_;clear W;refine wp_ret ?_;obtain rfl:=ka F;refine RT rfl (JI (v:=str (t1)) rfl) ?_;exact⟨rfl,H.Hv⟩
 refine sr ?_;intro K4 X;refine ve (v:=q) (k1 0) ?_;refine R9 (Pf u22 rfl c H.sub) ?_;refine ve (v:=.int .i64 (0)) rfl ?_;refine xk X ?_;clear X;refine wp_block ?_;refine uG fun m2 k2=>?_;obtain⟨out1,hL1,hE2⟩:=x9 hE1;replace H:=H.na 1 5;have g3:RL S [] ([]:Bs):=RL.nil;replace H:HS ⟨S,[],w⟩ S w1 [.H' (.slice none 0 0) (([]:Bs)).length 1 [] [] 5,.N' h (([Value.pointer none]++([Value.slice none 0 0]))) 104]:=H;refine CP [5,8,9,10,11,12,13,14,15,16,17,18,19] (fun(k:Int×Bs) (Y:FM) (w2:World)=>∃(Z:Mem) (a1:Value) (v1:Value) (s J:LV),look Y 8 = .int .i64 (k.1)/\Mem.le S Z/\HS ⟨S,[],w⟩ Z w2 [.H' (v1) (k.2).length 1 s J 5,.N' h (([a1]++([v1]))) 104]/\BA h a1/\RL Z s k.2) hL1 ⟨_,_,_,_,_,(k2 8),(Mem.le_refl _),H,(Or.inl rfl),g3⟩ ?_;clear H;intro k4 k Y w2 k3 hI1 o2 b hh1;obtain⟨Z,a1,v1,s,J,q1,d,H,g1,g2⟩:=hI1;replace D:=GV.mono D d;replace c:=x8.mono c d;have q2:look Y 3 = .pointer (some ⟨h,0,none⟩):=(k3 3 rfl).trans ((k2 3).trans (k1 3));have q3:look Y 6=q:=(k3 6 rfl).trans (k2 6);have q4:look Y 7 = .int .i64 (((x0).length:Int)):=(k3 7 rfl).trans (k2 7);unfold BN at b;refine sr ?_;intro K5 hK5;refine R9 (pJ q1 q4) ?_;refine xk hK5 ?_;clear hK5;refine wp_seq_k ?_;intro K6 hK6;refine Kf (t:=decide (k.1<((x0).length:Int))) rfl (fun K=>?_) (fun K=>?_)
 ·replace b:=vP b K;refine wp_skip ?_;refine xn hK6 ?_;clear hK6;refine wp_seq_k ?_;intro K7 hK7;refine wp_block ?_;refine sr ?_;intro K8 hK8;obtain⟨M,e1,b⟩:=x9 b;obtain⟨b2,o3,N1,c1,cs2,hv1,hi1,hc2,hr1⟩:=c.get (qG e1).2;refine R9 (FP (i:=(k.1:Int).toNat) u22 tsz9 q3 hv1 q1 (qG e1).1 hi1) ?_;obtain rfl:=elT hr1;refine R9 (sC (p:=(o3+(k.1:Int).toNat*1)) (o:=0) (v:=str (M)) to9 H.sub rfl hc2 rfl) ?_;refine Bh (v:=str (M)) rfl ?_;refine xk hK8 ?_;clear hK8;refine wp_region_lit ?_;refine ve (v:=str (M)) rfl ?_;refine R9 (Qk (N:=(M).length) u9 rfl rfl) ?_;obtain⟨y2,e2,b⟩:=x9 b;refine Jf (l:=[.int .i64 (((M).length:Int))]) is68 rfl ?_;refine(Mx H.sub D e2).mono ?_;rintro _ w3 ⟨rfl,hx⟩;replace H:=H.ext hx;clear hx;obtain⟨y3,e3,b⟩:=x9 b;refine R9 (Fv (r:=y3) rfl rfl (by have:=(Rr e3).1;omega) (Rr e3).2) ?_;refine ve (v:=str (M)) rfl ?_;obtain⟨y4,e4,b⟩:=x9 b;refine R9 (Fv (r:=y4) rfl rfl (by have:=(Rr e4).1;omega) (Rr e4).2) ?_;obtain⟨y5,e5,b⟩:=x9 b;refine Jf (l:=[.pointer (some ⟨h,0,none⟩),str (y4)]) is67 (zZ q2 (zZ rfl Ih)) ?_;refine(yjR (H.hand [1,0] rfl) g2 g1 e5).mono ?_;rintro _ w4 ⟨S2,u,A,C,pa1,rfl,H2,pg1,pg2⟩;obtain⟨H1,j⟩:=H.frame [1,0] [] rfl H2;clear H H2;have H:=H1;clear H1;replace D:=GV.mono D j;replace c:=x8.mono c j;replace H:HS ⟨S,[],w⟩ S2 w4 [.N' h (([pa1]++([u]))) 104,.H' (u) (y5.2).length 1 A C 5]:=H;refine wpList_nil ?_;refine HI ?_;refine xn hK7 ?_;clear hK7;refine wp_region_lit ?_;refine R9 (oJ q1 rfl) ?_;refine ve (v:=.int .i64 ((P0 (k.1+1)))) rfl ?_;refine wpList_nil ?_;refine Kr ?_;replace H:=H.ov [1,0] rfl;replace H:HS ⟨S,[],w⟩ S2 w4 [.H' (u) (y5.2).length 1 A C 5,.N' h (([pa1]++([u]))) 104]:=H;obtain rfl:=ka b;exact⟨((P0 (k.1+1)),y5.2),_,rfl,(by (repeat (refine nP rfl ?_));refine pZ k3 rfl ?_;exact kcx),⟨_,_,_,_,_,rfl,(Mem.le_trans d j),H,pg2,pg1⟩,hh1⟩
 ·replace b:=wP b K;refine wp_exit ?_;refine Bv ?_;refine Bv ?_;refine oo ?_;refine Kr ?_;replace H:HS ⟨S,[],w⟩ Z w2 [.H' (v1) (k.2).length 1 s J 5,.N' h (([a1]++([v1]))) 104]:=H;obtain rfl:=ka b;obtain rfl:=ka hh1;obtain rfl:=ka hE2;exact J1 _ _ _ _ _ _ _ (by (repeat (refine nP rfl ?_));refine pZ k3 rfl ?_;(repeat (refine nP rfl ?_));refine Tr k2 ?_;exact kcx) d H g1 g2
end
end Go.Proofs.YtopanhneegpgcaaGreatDoor
namespace Go.Proofs.YtopanhneegpgcaaGreatDoor.Am
open Go Go.RowKit
class kb (G:List (Nat×Obj)):Prop where
 gv:∀S,GS G S->GV S
theorem Ce{p:Prop}{G:List (Nat×Obj)}[kb G](h:p):p:=h
section
variable {G:List (Nat×Obj)}[kb G]
def ytM:PC:=⟨[.h (.i .i64)],[.s],yK,false⟩
theorem ytX:Z0 aA G 68 ytM:=pc1 (t1:=.i .i64) (rts:=[.s]) rfl rfl (Y5 H6 (by kernel_rfl) (by kernel_rfl)) fun S _ _ _ b hS h=>Mx hS (kb.gv S b) h
def ytA:PC:=⟨[.h .s,.h .s],[.s],fun x=>NA x.1 x.2,false⟩
omit [kb G] in
theorem ytK:Z0 aA G 164 ytA:=pc2 (t1:=.s) (t2:=.s) (rts:=[.s]) rfl rfl rfl (Y5 func164 (by kernel_rfl) (by kernel_rfl)) fun _ _ _ _ _ _ hS h=>zK hS h
def yvF:PC:=⟨[.h .s,.h .s],[.s,.s,.b],fun x=>UD x.1 x.2,false⟩
theorem yvE:Z0 aA G 59 yvF:=pc2 (t1:=.s) (t2:=.s) (rts:=[.s,.s,.b]) rfl rfl rfl (Y5 func59 (by kernel_rfl) (by kernel_rfl)) fun S _ _ _ _ c hS h=>LQ hS (kb.gv S c) h
def ytD:PC:=⟨[.h .s],[.i .i64,.er],gq,false⟩
omit [kb G] in
theorem ytT:Z0 aA G 165 ytD:=by
 refine⟨Y5 func165 (by kernel_rfl) (by kernel_rfl),fun c v d (x:Bs) (y:Int×Bool) z hS b i=>?_⟩;have b:A2 (VR c []) [W6 .s x] d:=b;cases b with
 |cons j k=>cases k;rw[qV (t:=.s) rfl j];obtain⟨l,p⟩:=AK hS (r:=y) i;refine p.mono fun e A ⟨q,u⟩=>⟨u,_,q,⟨_,rfl,_,_,rfl,(rfl:[_]=[_]),_,rfl,?_⟩,fun h=>by cases h⟩;exact⟨_,rfl,.inl ⟨l,rfl⟩⟩
end
section
variable {G:List (Nat×Obj)}
def yvC:PC:=⟨[.h (.sl .s)],[.s],CN,false⟩
theorem yvI[kb G]:Z0 aA G 22 yvC:=by
 refine⟨Y5 func22 (by kernel_rfl) (by kernel_rfl),fun b z i (x:kE) (y:Bs) j hS c k=>?_⟩;have c:A2 (VR b []) [W6 (.sl .s) x] i:=c;cases c with
 |cons d p=>cases p;rename_i u;have d:u7 (.sl .s) b [u] x:=d;obtain⟨A,q,r⟩:=d;cases q;exact(yxM hS (kb.gv b j) r k).mono fun e C ⟨t,v⟩=>⟨v,_,t,yzK (l:=[.s]) rfl,fun h=>by cases h⟩
end
section
variable {τ:TE}{P:Program}{G:List (Nat×Obj)}
theorem Px{f:FuncId}{fn:Func}{c:Code}{e:Ty}{T:TypeId}(hm:P.follows .mixedOrders=true)(p:P3 P τ)(hf:P.funcs[f]? = some fn)(J:s8 P f)(hb:fn.body=some c)(hl:cK 1 fn.ntmps=true)(hr:aJ fn.results.toList.length 1=true) (h1:run 0 fn.ntmps τ ⟨[],[],false,[]⟩ [] c ⟨[(0,.Y')],[]⟩ (Xh τ fn 0 [(none,⟨[(0,.Y')],[]⟩)])=some ()) (h2:∀xs:List (den e),run 0 fn.ntmps τ ⟨[],[],false,[]⟩ [] c ⟨[(0,.nn e xs)],[]⟩ (Xh τ fn 0 [(none,⟨[(0,.own 0)],[.H' e T]⟩)])=aR (X0 [] xs) fun r=>some r):
  P' P G f ⟨⟨[(0,.h (.sl e))],[]⟩,1,[(none,⟨[(0,.own 0)],[.H' e T]⟩)],fun xs=>X0 [] xs⟩:=by
 refine⟨J,fun D w0 F K L0 (xs:List (den e)) (d:List (den e)) _ b R H=>?_⟩;have H:X0 [] xs=some d:=H;have b:F.length=1:=b;have z:F.length<=fn.ntmps:=by rw[b];exact bK hl
 obtain⟨u,rfl⟩:∃u,F=[u]:=by
  match F,b with
  |[u],_=>exact⟨u,rfl⟩
 have hu:VB D K (.v (.sl e) xs) u:=R.sl 0;obtain⟨v,M,A⟩:=hu;injection M with M;subst M
 have re:∀{x:SV},VR D K x u->l3 ⟨D,U5 L0,w0⟩ D K L0 ⟨[(0,x)],[]⟩ (fun t=>[u].getD t undef) w0:=fun {x} hx=>⟨R.hs,R.lL,R.lE,R.obj,fun t=>by
  cases t with
  |zero=>exact hx|succ t=>trivial⟩
 by_cases l:∃n c,u = .slice none n c
 ·have N:u = .slice none 0 0/\xs=[]:=by
   obtain⟨cs,j,k2⟩:=A;obtain⟨n,c',l⟩:=l;rcases j with⟨⟨a0,j⟩,k3,_⟩|⟨b',o,c2,ds,T2,fz,j,_⟩
   ·rw[l]at j;injection j with _ O e3;exact⟨by rw[l,O,e3],aW k3⟩
   ·rw[l]at j;cases j
  obtain⟨rfl,rfl⟩:=N;have hd:d=[]:=xeT H;subst hd;refine(xfO hm p (X4 (G:=[]) (pc:=[]) (sc:=[]) (k:=false) trivial trivial _ (fun _ h=>by cases h)) hf hb z hr (re (x:=.Y') rfl) h1).mono fun e' w' ⟨v,U,S',E',L',V,W,ho,hS,hP,I,hv0,hn0,C⟩=>?_;have X:V=⟨[(0,.Y')],[]⟩:=by have:=ho (γ:=St) fun _ σ=>some σ;exact(ka this).symm
  subst X;have Y:L'.length=0:=I.lL;have Z:E'.length=0:=I.lE;have e1:L'=[]:=aW Y;have O:E'=[]:=aW Z;subst e1;subst O;have h0:W 0 = .slice none 0 0:=I.sl 0;refine⟨v,U,S',[.H' 0 (.slice none 0 0) (l0 e)],[.H' (.slice none 0 0) 0 (l0 e) [] [] T],⟨[(0,.own 0 0)],[.H' 0 e T []]⟩,W,fun k=>?_,hS,fun k e hk=>absurd hk (Nat.not_lt_zero k),⟨HS.nil I.hs _ _,rfl,rfl,fun i o h=>?_,fun t=>?_⟩,?_,bG _,C⟩
  ·show k (cd none) _=_;have:(c7.put (⟨[(0,.own 0)],[.H' e T]⟩:c7) ([]:List (den e)))=⟨[(0,.own 0 0)],[.H' 0 e T []]⟩:=by
    obtain⟨q,hq⟩:=ei e;have e0:∀y:den (.sl e),w8 [.H' e T] [.v (.sl e) y]=[.H' 0 e T y]:=fun y=>by rw[w8,hq];rfl
    have e1:w8 [.H' e T] [.v (.sl e) ([]:List (den e))]=[.H' 0 e T []]:=e0 _;exact congrArg (fun hp=>(⟨[(0,.own 0 0)],hp⟩:St)) e1
   rw[this];rfl
  ·cases i with
   |zero=>cases h;exact⟨_,_,rfl,rfl,.slice none 0 0,.slice none 0 0,[],[],rfl,rfl,rfl,.inl rfl⟩
   |succ i=>cases h
  ·cases t with
   |zero=>exact VR.ig (show VC S' _ (.own 0 0) (W 0) by rw[h0];exact⟨rfl,_,rfl,fun r v s U=>by cases U;exact⟨aL 0,fun _=>rfl⟩⟩)|succ t=>trivial
  ·intro i ver e' T' xs h;cases i with
   |zero=>cases h;rfl
   |succ i=>cases h
 ·exact(xfO hm p (X4 (G:=[]) (pc:=[]) (sc:=[]) (k:=false) trivial trivial _ (fun _ h=>by cases h)) hf hb z hr (re (x:=.nn e xs) ⟨A,fun n c h=>l ⟨n,c,h⟩⟩) ((h2 xs).trans (by rw[H];rfl))).mono fun _ _ h=>h
def GK(τ:TE)(f:Func)(e:Ty)(ex:Ex)(σ:St):Option (List (den e)):=match ex with
 |.exit _=>none|_=>match Ls τ σ f.results.toList with
  |some [.cl a c]=>match P7 a e with
   |some ⟨h⟩=>some (Ob (by rw[h]:Ty.sl a=Ty.sl e) (show den (.sl a)from c))|none=>none
  |_=>none
theorem xfP{f:FuncId}{fn:Func}{c:Code}{e:Ty}(X:P.follows .mixedOrders=true)(p:P3 P τ)(hf:P.funcs[f]? = some fn)(H:s8 P f)(Y:fn.body=some c)(R:cK 1 fn.ntmps=true) (b:∀xs:List (den e),run 0 fn.ntmps τ ⟨[],[],false,[]⟩ [] c ⟨[(0,.v (.sl e) xs)],[]⟩ (GK τ fn e)=aR (o6 (decide ((xs.length:Int)=(xs.length:Int)))) fun _=>aR (Z6 xs (xs.length:Int)) fun r=>some r):
  Z0 P G f ⟨[.h (.sl e)],[.sl e],fun xs=>some xs,true⟩:=by
 refine⟨H,fun q A C (xs:List (den e)) (y:List (den e)) _ hS D Z=>?_⟩;have I:xs=y:=ka Z;subst I;have D:A2 (VR q []) [SV.v (.sl e) xs] C:=D;have l:run 0 fn.ntmps τ ⟨[],[],false,[]⟩ [] c ⟨[(0,.v (.sl e) xs)],[]⟩ (GK τ fn e)=some xs:=by
  rw[b xs];have d:Z6 xs (xs.length:Int)=some xs:=by unfold Z6;simp
  simp[o6,d]
 have J:C.length=1:=by rw[<-D.len];rfl
 refine enter hf Y rfl (by rw[J];exact R) ?_;have R0:Rel fn.ntmps ⟨q,[],A⟩ q [] [] ⟨Q5 0 [SV.v (.sl e) xs],[]⟩ (Ca C 0) A:=by
  refine⟨HS.start hS,rfl,rfl,fun i o h=>by simp at h,fun t=>?_⟩;show VR q [] (z7 (Q5 0 [SV.v (.sl e) xs]) t) (bif cY t fn.ntmps then look (Ca C 0) t else undef);cases U:cY t fn.ntmps with
  |true=>exact cm 0 t D|false=>rw[eo]at U;have b:=of_decide_eq_false U;have l:=bK R;rw[yuB (by simp;omega)];trivial
 refine tt X p (X4 (G:=[]) (pc:=[]) (sc:=[]) (k:=false) trivial trivial _ (fun _ h=>by cases h)) c R0 (GK τ fn e) xs _ l fun ex K S' E' L' V F b _ _ _ M=>?_
 have key:∀(_:(match Ls τ K fn.results.toList with
   |some [.cl g xs]=>match P7 g e with
    |some ⟨h⟩=>some (Ob (by rw[h]:Ty.sl g=Ty.sl e) (show den (.sl g)from xs))|none=>none
   |_=>none)=some xs),(fr fn.ntmps V).defers=[]/\∃v,(results fn (fr fn.ntmps V).tmps).run P F = .ok v F/\Ext A F/\Be (gr q A F) [.sl e] v xs/\∃a n,v = .slice a n n:=fun b=>by
  split at b
  ·rename_i g W N;split at b
   ·rename_i hh _;subst hh;have O:W=xs:=ka b;subst O;obtain⟨vs,d,u⟩:=pV (P:=P) p M N;obtain⟨v,rfl,j⟩:=d.one;obtain⟨j,a,z⟩:=(show VB S' E' (.cl g W) v from j);refine⟨rfl,v,?_,M.hs.Hv,⟨v,rfl,x8.mono j M.hs.gr⟩,a,_,z⟩;rw[pP,fC];simp only[La,xDb,u,Gf,Eb];rfl
   ·cases b
  ·cases b
 cases ex with
 |normal=>obtain⟨l,v,d,u,j,z⟩:=key b;exact⟨l,v,d,u,v,rfl,j,fun _=>z⟩
 |ret=>obtain⟨l,v,d,u,j,z⟩:=key b;exact⟨l,v,d,u,v,rfl,j,fun _=>z⟩
 |exit i=>cases b
end
end Go.Proofs.YtopanhneegpgcaaGreatDoor.Am
namespace Go.Proofs.YtopanhneegpgcaaGreatDoor.Am
open Go Go.RowKit Go.Maps Go.Sort
open Go.WideElems (Fit rd rg)
def gm:kE->Bool
 |x::y::l=>Op.bytesLess x y&&gm (y::l)|_=>true
def HK{α:Type}(es:List (Bs×α)):Bool:=decide (es.length<=1048576)&&(es.all (fun p=>decide (p.1.length<=68719476736))&&gm (es.map (·.1)))
def yt{α:Type}(es:List (Bs×α)):Option (kE×List (Bs×α)):=bif HK es then some (es.map (·.1),es)else none
theorem xaB:∀{l:kE},gm l=true->l.Pairwise fun x y=>x<y
 |[],_=>.nil|[x],_=>List.pairwise_singleton _ _|x::y::l,h=>by
  unfold gm at h;rw[aI,bytesLess_eq,zE]at h;have b:=xaB (l:=y::l) h.2;refine bD.2 ⟨fun z hz=>?_,b⟩;rcases aN.1 hz with rfl|hz
  ·exact h.1
  ·exact List.lt_trans h.1 ((bD.1 b).1 z hz)
theorem im{l:kE}(h:gm l=true):l.mergeSort (fun x y=>decide (x<=y))=l:=by refine List.mergeSort_of_pairwise ((xaB h).imp fun {a b} c=>?_);simp only[zE];exact List.le_of_lt c
def jd:Value->Option (DataW Unit×List MemPlace):=fun _=>some (.nil,[])
section
variable {P:Program}{S:Mem}
theorem Li{V:Ty}{kT:TypeId}(hk:P.underlying kT=some .string):∀{l:List (Bs×den V)} {Q':List MapEntry},A2 (fun(p:Bs×den V) c=>a7 .s S c.key p.1/\a7 V S c.val p.2) l Q'->(∀p∈l,p.1.length<=68719476736)->Q'.map (·.key)=l.map (fun p=>str p.1)/\(∀x∈Q',∃y,Go.WideElems.rd P kT jd x=some y)/\(Q'.map (Go.WideElems.rg P kT jd)).map (fun p=>strOf p.1)=l.map (·.1)
 |_,_,.nil,_=>⟨rfl,fun _ h=>(by cases h),rfl⟩|p::l,c::Q',.cons a r,i=>by
  obtain⟨i1,i2,i3⟩:=Li hk r fun q t=>i q (aM _ t);have b:c.key=str p.1:=by have h:[c.key]=[str p.1]:=a.1;injection h
  have hp:=i p aO;have j:Go.WideElems.rd P kT jd c=some (.string p.1,.nil):=by unfold Go.WideElems.rd;rw[b];have:=Go.WideMaps.keyOf_string_mk (P:=P) (k:=kT) hk (s:=⟨p.1.toArray⟩) (by show p.1.toArray.size<=_;simp[maxLen];omega);show(keyOf P kT (.string ⟨p.1.toArray⟩)).bind _=_;rw[this];rfl
  refine⟨by rw[bF,bF,i1,b],fun x d=>?_,?_⟩
  ·rcases aN.1 d with rfl|d
   ·exact⟨_,j⟩
   ·exact i2 x d
  ·rw[bF,bF,bF,i3];congr 1;unfold Go.WideElems.rg;rw[j];rfl
theorem Qx{V:Ty}{kT:TypeId}{w:World}{b ck:Nat}{es:List (Bs×den V)}{Q':List MapEntry}(hk:P.underlying kT=some .string)(q:MR S .s V es Q')(t:∀u∈Q',u.born<ck)(v:w.heap[b]? = some (.map Q'.toArray ck))(i:HK es=true):∃j:DataW Unit,w.ownsMap P kT jd b es.length j/\Maps.size j=es.length/\(strKeys j).Perm (es.map (·.1)):=by
 obtain⟨(l:List (Bs×den V)),(h:l.Perm es),r⟩:=q.perm;unfold HK at i;simp only[aI,zE,bR]at i;obtain⟨I,z,A⟩:=i;have c:Q'.length=es.length:=by rw[<-r.len];exact h.length_eq
 obtain⟨C,D,F⟩:=Li hk r fun p hp=>z p (h.mem_iff.1 hp);have k:(es.map (·.1)).Nodup:=(xaB A).imp fun {a b} d e=>by subst e;exact List.lt_irrefl _ d
 refine⟨_,⟨Q'.toArray,ck,v,⟨by simp[maxLen];omega,⟨by simpa using t,by simpa using q.nd,?_⟩,by simpa using D⟩,by simp[c],rfl⟩,?_,?_⟩
 ·have H:l.map (fun p=>str p.1)=(l.map (·.1)).map str:=by rw[List.map_map];rfl
  simp only[];rw[C,H];refine List.Pairwise.map _ (fun a b d e=>d (LI e)) ((h.map _).nodup_iff.2 k)
 ·show((Q'.map (Go.WideElems.rg P kT jd)).foldr DataW.insert []).length=_;rw[length_sorted,aE,c]
 ·show(((Q'.map (Go.WideElems.rg P kT jd)).foldr DataW.insert []).map fun p=>strOf p.1).Perm _;refine((Go.WideShapes.sorted_perm _).map _).trans ?_;rw[F];exact h.map _
theorem DN:∀(l:kE),@RL (den .s) (Q9 .s) S (l.map encStr) l
 |[]=>rfl|x::l=>⟨[str x],l.map encStr,rfl,(rfl:[_]=[_]),DN l⟩
theorem IK{w':World}{c n:Nat}{l:TypeId}{v:Value}{d:kE}(q:d.length=n)(h:w'.ownsRow c l 1 v n (d.map encStr))(r:∀b,c<=b->S b=w'.heap[b]?):@x8 (den .s) (Q9 .s) S v d:=by
 subst q;refine⟨d.map encStr,?_,DN d⟩;obtain⟨D,t⟩:=h;show we S v d.length 1 (d.map encStr);rcases t with⟨rfl,k⟩|⟨p,i,j,rfl,k,u,z,F,A,C⟩
 ·have:d=[]:=aW k;subst this;exact .inl ⟨⟨_,rfl⟩,rfl,rfl⟩
 ·refine .inr ⟨p,0,i,j.toList,l,(0,0),rfl,z,?_,?_,?_⟩
  ·rw[r p k,u]
  ·have:j.toList.length=i*1:=by simpa using A
   rw[this];omega
  ·rw[P9,List.drop_zero];exact C
theorem TQ{G:List (Nat×Obj)}{f g:FuncId}{mT kT sT:TypeId}{V:Ty}(hfn:s8 P f)(hk:P.underlying kT=some .string) (hS:∀(Bm b nn:Nat) (D0:DataW Unit) (w:World),Bm<w.heap.size->w.cell? ⟨Bm,0,none⟩=some (.map (some b))->w.ownsMap P kT jd b nn D0->Maps.size D0<=maxLen->Maps.size D0*16<=140737488355328 ->
   Calls P f #[.func (.func g) #[] #[.pointer (some ⟨Bm,0,none⟩)]] w fun e w'=>∃(v:Value) (A:kE),e = .returned v/\A.Perm (strKeys D0)/\w'.ownsRow w.heap.size sT 1 v A.length ((A.mergeSort (fun x y=>decide (x<=y))).map encStr)/\(v = .slice none 0 0↔A=[])/\Below w.heap.size w w'):
  P' P G f ⟨⟨[(0,.fn g [] [.ptr 0 0])],[.N' mT [.mpr 1],.mp true .s V]⟩,1,[(none,⟨[(0,.h (.sl .s))],[.N' mT [.mpr 1],.mp true .s V]⟩)],fun(es:List (Bs×den V))=>yt es⟩:=by
 refine⟨hfn,fun r p Y K Z (es:List (Bs×den V)) d _ C R D=>?_⟩;have D:(bif HK es then some (es.map (·.1),es)else none)=some d:=D;obtain⟨j,D⟩:=r7 D;have hd:d=(es.map (·.1),es):=(ka D).symm;subst hd;have C:Y.length=1:=C;obtain⟨u,rfl⟩:∃u,Y=[u]:=by
  match Y,C with
  |[u],_=>exact⟨u,rfl⟩
 obtain⟨q,hq⟩:=ei (.mp .s V);have Zb:(c7.put (⟨[(0,.fn g [] [.ptr 0 0])],[.N' mT [.mpr 1],.mp true .s V]⟩:c7) es)=⟨[(0,.fn g [] [.ptr 0 0])],[.N' mT [.mpr 1],.mp 0 .s V es]⟩:=by
  have N:∀y:den (.mp .s V),w8 [.N' mT [.mpr 1],.mp true .s V] [.v (.mp .s V) y]=[.N' mT [.mpr 1],.mp 0 .s V y]:=fun y=>by simp only[w8,dw,Sh.yc,Sh.S9,hq];rfl
  exact congrArg (fun hp=>(⟨[(0,.fn g [] [.ptr 0 0])],hp⟩:St)) (N es)
 have F:(c7.put (⟨[(0,.h (.sl .s))],[.N' mT [.mpr 1],.mp true .s V]⟩:c7) ((es.map (·.1),es):kE×List (Bs×den V)))=⟨[(0,.v (.sl .s) (es.map (·.1)))],[.N' mT [.mpr 1],.mp 0 .s V es]⟩:=by
  have N:∀y:den (.mp .s V),w8 [.N' mT [.mpr 1],.mp true .s V] [.v (.mp .s V) y]=[.N' mT [.mpr 1],.mp 0 .s V y]:=fun y=>by simp only[w8,dw,Sh.yc,Sh.S9,hq];rfl
  exact congrArg (fun hp=>(⟨[(0,.v (.sl .s) (es.map (·.1)))],hp⟩:St)) (N es)
 have R:l3 ⟨r,U5 Z,p⟩ r K Z ⟨[(0,.fn g [] [.ptr 0 0])],[.N' mT [.mpr 1],.mp 0 .s V es]⟩ (fun t=>[u].getD t undef) p:=by rw[<-Zb];exact R
 obtain⟨r0,N,a1,a2,O,cs,rfl,rfl,a3⟩:=R.P6 (i:=0) rfl;obtain⟨c,rfl,a4⟩:=a3.one;obtain⟨_,e1,a5,a6⟩:=(show VB r K (.mpr 1) c from a4);obtain⟨r1,e1',c1,c2,b,Q',ck,rfl,rfl,c3,c4⟩:=R.P6 (i:=1) rfl;rw[c2]at a5;cases a5;have hc:=a6 _ _ _ _ rfl;subst hc;have M:p.heap[O]? = some (.cells [Value.map (some b)].toArray mT (0,0)):=R.hs.own 0 _ a1;have hh1:p.heap[b]? = some (.map Q'.toArray ck):=R.hs.own 1 _ c1;have hu:u = .func (.func g) #[] #[.pointer (some ⟨O,0,none⟩)]:=by obtain⟨xs,ys,hu,h1,h2⟩:=(show VC r K (.fn g [] [.ptr 0 0]) u from R.sl 0);cases h1;obtain⟨y,rfl,h3⟩:=h2.one;obtain⟨b1,D,e2,h4,h5⟩:=(show VB r K (.ptr 0 0) y from h3);rw[a2]at h4;cases h4;cases h5 _ rfl;rw[hu,D]
 subst hu;obtain⟨D0,d1,d2,d3⟩:=Qx (S:=r) hk c3 c4 hh1 j;have hlen:es.length<=1048576:=by unfold HK at j;simp only[aI,zE]at j;exact j.1
 have H:gm (es.map (·.1))=true:=by unfold HK at j;simp only[aI]at j;exact j.2.2
 have I:p.cell? ⟨O,0,none⟩=some (.map (some b)):=by simp[World.cell?,M]
 refine(hS O b es.length D0 p (aT.1 M).1 I d1 (by rw[d2];simp[maxLen];omega) (by rw[d2];omega)).mono fun e w' ⟨v,A,he,hp,z,hnil,hx⟩=>?_;have hx:Ext p w':=hx;have hss:A.mergeSort (fun x y=>decide (x<=y))=es.map (·.1):=by rw[<-im H];exact mergeSort_of_perm (hp.trans d3)
 have hsl:A.length=es.length:=by rw[hp.length_eq,d3.length_eq,aE]
 rw[hss,hsl]at z;have U:=R.call hx;have hv:VB (gr r p w') K (.v (.sl .s) (es.map (·.1))) v:=
  ⟨v,rfl,IK (aE _) z fun b hb=>by unfold Go.Proofs.YtopanhneegpgcaaGreatDoor.gr;rw[zI (by omega)]⟩
 refine⟨v,he,gr r p w',K,Z,⟨[(0,.v (.sl .s) (es.map (·.1)))],[.N' mT [.mpr 1],.mp 0 .s V es]⟩,fun _=>v,fun k=>?_,nG R.hs.sub,l8.refl _ _,⟨U.hs,U.lL,U.lE,U.obj,fun t=>?_⟩,?_,aL _,rfl⟩
 ·show k (cd none) ((c7.put _ _).X0 [])=_;rw[F];rfl
 ·cases t with
  |zero=>exact VR.ig (show VC _ _ (.v (.sl .s) (es.map (·.1))) v from hv)|succ t=>trivial
 ·intro i ver e' T' xs h;cases i with
  |zero=>cases h
  |succ i=>
   cases i with
   |zero=>cases h
   |succ i=>cases h
end
end Go.Proofs.YtopanhneegpgcaaGreatDoor.Am
