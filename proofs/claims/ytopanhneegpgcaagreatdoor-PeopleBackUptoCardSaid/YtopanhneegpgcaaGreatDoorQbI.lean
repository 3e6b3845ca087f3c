/- Parts of one proof. Conditions: as each theorem says. -/
import Derived.Shelf.Strings.SlTrimAscii
import Derived.KernelRfl
import Derived.Test.YtopanhneegpgcaaGreatDoorRows
import Derived.Lib.Builder
import Derived.Lib.UnsafeStr
import Derived.LaidEql
import Derived.Laws.Externs
import Derived.Sort.KeysCollected
import Derived.Sort.Walk0
import Derived.Test.YtopanhneegpgcaaGreatDoorQbH
namespace Go.Proofs.YtopanhneegpgcaaGreatDoor.Am
open Go Go.RowKit
section
variable {β:Type}{τ:TE}{Γ:CT}{η:HT}{N0 n:Nat}{P:Program}{B:Bas}{S:Mem}{E:List EI}{L:List Res}{σ:St}{m:FM}{w:World}{ops:Array Oper}{Q:Exit->Act->World->Prop}{rest:List Oper}{o:Oper}
def exQ:Ex->Exit
 |.normal=>.normal
 |.exit i=>.exit i
 |.ret=>.ret
theorem znA{α γ:Type}{f:α->γ}{o:Option α}{y:γ}(h:mapO f o=some y):∃x,o=some x/\f x=y:=by
 cases o with
 |none=>cases h
 |some x=>cases h;exact⟨x,rfl,rfl⟩
theorem xdF{a:Option Nat}{e:Ex}(h:isEx a e=true):exOf a=e:=by
 cases a with
 |none=>cases e<;>first|rfl|cases h
 |some n=>
  cases e with
  |normal=>cases h
  |exit i=>
   have h1:=Nat.eq_of_beq_eq_true (zaT h);subst h1
   have h2:=zaX h
   cases hb:Nat.beq n 1000000 with
   |true=>rw[hb]at h2;cases h2
   |false=>simp only[exOf,hb,cond_false]
  |ret=>simp only[exOf,show Nat.beq n 1000000=true from h,cond_true]
theorem Agr.ev{D:List Nat}{m m':FM}(h:Agr D m m'){t:Nat}(ht:hasN D t=false):evO n m' (.tmp t)=evO n m (.tmp t):=by
 show(bif Nat.blt t n then look m' t else undef)=(bif Nat.blt t n then look m t else undef)
 rw[h t ht]
theorem zsM{S':Mem}{E':List EI}{m':FM}{D:List Nat}(R:Rel n B S E L σ m w)(hS:Mem.le S S')(hA:Agr D m m'):∀(kp:List Nat) (t:Nat),VR S' E' (lkS (ztS D σ kp) t) (evO n m' (.tmp t))
 |[],_=>trivial
 |d::kp,t=>by
  unfold ztS
  cases hb:!(hasN D d)&&ydC (lkS σ.sl d) with
  |false=>exact zsM R hS hA kp t
  |true=>
   simp only[cond_true,lkS]
   cases hd:Nat.beq d t with
   |false=>exact zsM R hS hA kp t
   |true=>
    have:=Nat.eq_of_beq_eq_true hd;subst this
    have h1:=zaT hb
    have h2:hasN D d=false:=by cases hh:hasN D d with
     |true=>rw[hh]at h1;cases h1
     |false=>rfl
    rw[hA.ev h2]
    exact yrY (zaX hb) (R.sl d) hS
theorem xcL:∀(a b:List (Nat×SV)) (t:Nat),lkS (a++b) t=lkS a t∨lkS (a++b) t=lkS b t
 |[],_,_=>.inr rfl
 |(d,x)::a,b,t=>by
  simp only[List.cons_append,lkS]
  cases Nat.beq d t with
  |true=>exact .inl rfl
  |false=>exact xcL a b t
theorem RelV.app{V:Nat->Value}(R:RelV B S E L σ V w){l:List (Nat×SV)}(h:∀t,VR S E (lkS l t) (V t)):RelV B S E L (σ.app l) V w:=
 ⟨R.hs,R.lL,R.lE,R.obj,fun t=>by
  show VR S E (lkS (σ.sl++l) t) _
  rcases xcL σ.sl l t with e|e
  ·rw[e];exact R.sl t
  ·rw[e];exact h t⟩
theorem ymC:∀(os:List OSh) (l:List SV),Ver0 (zdQ os l)
 |[],l=>fun i ver e T xs h=>by cases l<;>(simp[zdQ]at h)
 |o::os,l=>by
  obtain⟨a,l',h,ha⟩:=yjD o os l
  rw[h]
  intro i ver e T xs h
  cases i with
  |zero=>simp at h;exact ha _ _ _ _ h
  |succ i=>exact ymC os l' i ver e T xs (by simpa using h)
theorem get_put{s:Shp}{x:zcL s.tys}(h:s.get N0 σ=some x):Ver0 (s.put x).hp/\N0<=(s.put x).hp.length:=by
 refine⟨ymC _ _,?_⟩
 unfold Shp.get at h
 obtain⟨h1,_⟩:=zaG h
 show N0<=(zdQ s.hp _).length
 rw[yaY]
 exact Nat.le_of_ble_eq_true (zaT h1)
theorem yaB{V:Nat->Value}(R:RelV B S E L σ V w){e:Ex}{kp:List (Nat×SV)}(hk:∀S' E',Mem.le S S'->∀t,VR S' E' (lkS kp t) (V t)):∀{outs:List (Option Nat×Shp)} {d:DS outs},inj N0 outs e σ=some d->∃S' E' L' σ',Mem.le S S'/\Pin N0 E E'/\RelV B S' E' L' σ' V w/\Ver0 σ'.hp/\N0<=σ'.hp.length/\∀{γ:Type} (k:Ex->St->Option γ),out kp outs d k=k e σ'
 |[],_,h=>by cases h
 |[a],d,h=>by
  obtain⟨h1,h2⟩:=zaG h
  obtain⟨S',E',L',hS,hP,R'⟩:=zzQ R (fun l=>ziI l R) h2
  obtain⟨h3,h4⟩:=get_put h2
  refine⟨S',E',L',_,hS,hP,R'.app (hk S' E' hS),h3,h4,fun k=>?_⟩
  show k (exOf a.1) _=_;rw[xdF h1]
 |a::b::l,d,h=>by
  have next:mapO Sum.inr (inj N0 (b::l) e σ)=some d->∃S' E' L' σ',Mem.le S S'/\Pin N0 E E'/\RelV B S' E' L' σ' V w/\Ver0 σ'.hp/\N0<=σ'.hp.length/\∀{γ:Type} (k:Ex->St->Option γ),out kp (a::b::l) d k=k e σ':=fun h=>by
   obtain⟨x,h1,rfl⟩:=znA h
   exact yaB R hk (outs:=b::l) h1
  simp only[inj]at h
  cases hb:isEx a.1 e with
  |true=>
   rw[hb]at h
   simp only[cond_true]at h
   split at h
   ·rename_i x h1
    cases h
    obtain⟨S',E',L',hS,hP,R'⟩:=zzQ R (fun l=>ziI l R) h1
    obtain⟨h3,h4⟩:=get_put h1
    refine⟨S',E',L',_,hS,hP,R'.app (hk S' E' hS),h3,h4,fun k=>?_⟩
    show k (exOf a.1) _=_;rw[xdF hb]
   ·exact next h
  |false=>
   rw[hb]at h
   exact next h
theorem HS.nil(H:HS B S w L)(sz:Nat)(T:TypeId):HS B S w (.osl (.slice none 0 0) 0 sz [] [] T::L):=by
 refine⟨H.fr,H.sub,H.keep,fun i q h=>?_,fun i q b h hb=>?_,fun i j q s b hi hj hq hs=>?_⟩
 ·cases i with
  |zero=>cases h;exact .inl ⟨rfl,rfl,rfl,rfl⟩
  |succ i=>exact H.own _ q h
 ·cases i with
  |zero=>cases h;cases hb
  |succ i=>exact H.old _ q b h hb
 ·cases i with
  |zero=>cases hi;cases hq
  |succ i=>
   cases j with
   |zero=>cases hj;cases hs
   |succ j=>rw[H.inj i j q s b hi hj hq hs]
theorem xuV{c:SV}{u:Value}(hc:isNl c=true)(hx:VR S E c u):Same S (.slice none 0 0) u 0/\u.oneCell'=true:=by
 cases c with
 |nils=>have hx:u = .slice none 0 0:=hx;subst hx;exact⟨.inl rfl,rfl⟩
 |emp=>have hx:VB S E .emp u:=hx;obtain⟨h1,a,rfl⟩:=hx;exact⟨.inr ⟨rfl,rfl,h1,a,rfl⟩,rfl⟩
 |_=>cases hc
theorem xjX(R:Rel n B S E L σ m w){c:SV}{u:Value}(hc:isNl c=true)(hx:VR S E c u)(e:Ty)(T:TypeId):Rel n B S (E++[.osl 0 u (tsz e)]) (L++[.osl (.slice none 0 0) 0 (tsz e) [] [] T]) ⟨σ.sl,σ.hp++[.osl 0 e T []]⟩ m w/\VC S (E++[.osl 0 u (tsz e)]) (.own σ.hp.length 0) u:=by
 obtain⟨h1,h2⟩:=xuV hc hx
 refine⟨R.snoc (HS.nil R.hs _ _) ⟨.slice none 0 0,u,[],[],rfl,rfl,rfl,h1⟩,h2,.osl 0 u (tsz e),by rw[<-R.lE];simp,fun r v s he=>?_⟩
 cases he;exact⟨Nat.le_refl 0,fun _=>rfl⟩
theorem xrG(R:Rel n B S E L σ m w)(x:Mk):∃S' E' L',Mem.le S S'/\ELe E E'/\Rel n B S' E' L' (mk1 σ x) m w:=by
 have same:∃S' E' L',Mem.le S S'/\ELe E E'/\Rel n B S' E' L' σ m w:=⟨S,E,L,Mem.le_refl _,ELe.refl _,R⟩
 cases x with
 |sl d e T=>
  simp only[mk1]
  cases hn:isNl (lkS σ.sl d) with
  |false=>exact same
  |true=>
   obtain⟨R1,h1⟩:=xjX R hn (R.sl d) e T
   exact⟨S,_,_,Mem.le_refl _,ELe.push E _,R1.re (d:=d) (VR.ofC h1)⟩
 |cell d i e T=>
  simp only[mk1]
  split
  ·split
   ·rename_i id off hp _ T' cs hc
    split
    ·rename_i c hi
     cases hn:isNl c with
     |false=>exact same
     |true=>
      obtain⟨r0,e0,h1,h2,b,us,rfl,rfl,h3⟩:=R.objN hc
      obtain⟨u,h4,h5⟩:=h3.at hi
      obtain⟨R1,h6⟩:=xjX R hn (VR.ofC h5) e T
      have hlt:id<σ.hp.length:=by rw[<-R.lE];exact(List.getElem?_eq_some_iff.1 h2).1
      have h2':(E++[EI.osl 0 u (tsz e)])[id]? = some (.blk b):=by rw[List.getElem?_append_left (by rw[R.lE];exact hlt)];exact h2
      have h1':lkR (L++[Res.osl (.slice none 0 0) 0 (tsz e) [] [] T]) id=some (.blk b us T'):=by
       rw[zaZ,List.getElem?_append_left (by rw[R.lL];exact hlt),<-zaZ];exact h1
      have hst:stR (L++[Res.osl (.slice none 0 0) 0 (tsz e) [] [] T]) id (.blk b us T')=L++[Res.osl (.slice none 0 0) 0 (tsz e) [] [] T]:=by
       rw[zsY]
       apply List.ext_getElem?
       intro j
       by_cases hj:id=j
       ·subst hj
        rw[zaZ]at h1'
        rw[List.getElem?_set_self (List.getElem?_eq_some_iff.1 h1').1,h1']
       ·rw[List.getElem?_set_ne hj]
      have h7:A2 (VC S (E++[EI.osl 0 u (tsz e)])) (setN cs i (.own σ.hp.length 0)) us:=by
       have h8:A2 (VC S (E++[EI.osl 0 u (tsz e)])) cs us:=h3.imp fun _ _ h=>h.mono (Mem.le_refl S) (ELe.push E _)
       have h9:=A2.set (a:=SV.own σ.hp.length 0) h6 i h8
       have h10:us.set i u=us:=by
        apply List.ext_getElem?
        intro j
        by_cases hj:i=j
        ·subst hj;rw[List.getElem?_set_self (List.getElem?_eq_some_iff.1 h4).1,h4]
        ·rw[List.getElem?_set_ne hj]
       rw[zfQ]
       rw[h10]at h9;exact h9
      exact⟨S,_,_,Mem.le_refl _,ELe.push E _,R1.upd1 (r':=.blk b us T') h2' (by rw[hst];exact R1.hs) ⟨b,us,rfl,rfl,h7⟩⟩
    ·exact same
   ·exact same
  ·exact same
 |qu d=>
  simp only[mk1]
  split
  ·rename_i id ver hv
   split
   ·rename_i ver' e T x0 xs hc
    cases hb:Nat.beq ver ver' with
    |false=>exact same
    |true=>
     have:=Nat.eq_of_beq_eq_true hb;subst this
     obtain⟨r0,e0,h1,h2,v,v',cs,rs,rfl,rfl,h3,hsm⟩:=R.objN hc
     obtain rfl:=hsm.eq (i:=0) (by simp)
     obtain⟨b,c,fz,k1,k2,k3⟩:=yiG R.hs h1 (i:=0) (by simp)
     subst k1
     have hc2:(x0::xs).length<=c:=by
      rcases R.hs.own id _ h1 with⟨h,_⟩|⟨b',c',fz',h,h4,_⟩
      ·cases h
      ·injection h with _ _ h;rw[h];exact h4
     have hst:stR L id (.osl (sl b 0 (x0::xs).length c) (x0::xs).length (tsz e) cs rs T)=L:=by
      rw[zsY]
      apply List.ext_getElem?
      intro j
      by_cases hj:id=j
      ·subst hj;rw[zaZ]at h1;rw[List.getElem?_set_self (List.getElem?_eq_some_iff.1 h1).1,h1]
      ·rw[List.getElem?_set_ne hj]
     exact⟨S,_,_,Mem.le_refl _,ELe.refl _,R.upd1 (o':=.qu ver e T (x0::xs)) (r':=.osl (sl b 0 (x0::xs).length c) (x0::xs).length (tsz e) cs rs T) h2 (by rw[hst];exact R.hs) ⟨b,c,0,[],cs,rs,0,c,by rw[Nat.zero_add];rfl,rfl,by simp,h3,hc2,.inl ⟨by rw[Nat.zero_mul],by rw[Nat.zero_add]⟩⟩⟩
   ·exact same
  ·exact same
theorem zyX:∀(l:List Mk) {σ:St} {S:Mem} {E:List EI} {L:List Res} (_:Rel n B S E L σ m w),∃S' E' L',Mem.le S S'/\ELe E E'/\Rel n B S' E' L' (zuP σ l) m w
 |[],_,S,E,L,R=>⟨S,E,L,Mem.le_refl _,ELe.refl _,R⟩
 |x::l,_,_,_,_,R=>by
  obtain⟨S1,E1,L1,h1,h2,R1⟩:=xrG R x
  obtain⟨S2,E2,L2,h3,h4,R2⟩:=zyX l R1
  exact⟨S2,E2,L2,Mem.le_trans h1 h3,h2.trans h4,R2⟩
theorem xbJ{K V:Ty}(hK:kOk K=true){es:List (den K×den V)}{ents:List MapEntry}(hM:MR S K V es ents){a c:MapEntry}(ha:a∈ents)(hc:c∈ents):a.key=c.key↔a.born=c.born:=by
 obtain⟨l,hl,hA⟩:=hM.perm
 have hne:l.Pairwise fun p q=>keq K p.1 q.1=false:=(hl.pairwise_iff fun h=>ycC hK h).2 hM.ne
 obtain⟨i,hi,rfl⟩:=List.mem_iff_getElem.1 ha
 obtain⟨j,hj,rfl⟩:=List.mem_iff_getElem.1 hc
 have hlen:=hA.len
 constructor
 ·intro h
  by_cases hij:i=j
  ·subst hij;rfl
  ·exfalso
   obtain⟨p,hp,hp2⟩:=A2.at_r hA (List.getElem?_eq_getElem hi)
   obtain⟨q,hq,hq2⟩:=A2.at_r hA (List.getElem?_eq_getElem hj)
   have h2:p.1=q.1:=yjI hK (by rw[<-yaF hK hp2.1,<-yaF hK hq2.1,h])
   have h3:∀{i j:Nat} {p q:den K×den V},i<j->l[i]? = some p->l[j]? = some q->p.1=q.1->False:=fun {i j p q} hij hp hq h2=>by
    obtain⟨h4,rfl⟩:=List.getElem?_eq_some_iff.1 hp
    obtain⟨h5,rfl⟩:=List.getElem?_eq_some_iff.1 hq
    have:=List.pairwise_iff_getElem.1 hne i j h4 h5 hij
    rw[h2]at this
    rw[(zlD hK).2 rfl]at this;cases this
   rcases Nat.lt_or_gt_of_ne hij with h4|h4
   ·exact h3 h4 hp hq h2
   ·exact h3 h4 hq hp h2.symm
 ·intro h
  by_cases hij:i=j
  ·subst hij;rfl
  ·exfalso
   have h4:∀{i j:Nat} (hi:i<ents.length) (hj:j<ents.length),i<j->ents[i].born=ents[j].born->False:=fun {i j} hi hj hij h=>by
    have:=List.pairwise_iff_getElem.1 hM.nd i j (by simpa using hi) (by simpa using hj) hij
    simp only[List.getElem_map]at this
    exact this h
   rcases Nat.lt_or_gt_of_ne hij with h5|h5
   ·exact h4 hi hj h5 h
   ·exact h4 hj hi h5 h.symm
theorem ymE{S R:Type}{f:S->List (Option (S⊕R))}{s:S}{r:R}(h:rngA f s=some r):∃n,Rng f n s r:=by
 unfold rngA at h
 split at h
 ·rename_i hh;cases h;exact hh.choose_spec
 ·cases h
theorem xfG{α γ:Type}{l:List α}{d:γ}{f:α->γ}{p:α}(h:p∈l):f p∈rngL l d f:=by
 cases l with
 |nil=>cases h
 |cons x l=>exact List.mem_map.2 ⟨p,h,rfl⟩
theorem yzY{γ:Type}{d t:Nat}{g0:St->Option γ}{Z:Option γ->Prop}(R:Rel n B S E L σ m w)(hZ:¬Z none)(hz:∀o∈yxT n σ d t g0,Z o){ty:TypeId}{pos:String}{aft:Array Edge}:
  outcome P (fun v w'=>∃σ' L',Z (g0 σ')/\Rel n B S E L' σ' ((d,v)::m) w') ((execOp (evO n m) ⟨some d,.next (.tmp t) false,ty,pos,aft,none⟩).run P w):=by
 have bad:∀{X:Prop},(∀o,o∈[(none:Option γ)]->Z o)->X:=fun h=>absurd (h none List.mem_cons_self) hZ
 unfold yxT at hz
 split at hz
 ·rename_i i ht
  split at hz
  ·rename_i mid gn K cur left hi
   split at hz
   ·rename_i g' K' V es hm
    split at hz
    ·rename_i hK _
     subst hK
     cases hb:Nat.beq gn g'&&Nat.blt d n with
     |false=>rw[hb]at hz;exact bad hz
     |true=>
      rw[hb]at hz
      simp only[cond_true,zkS]at hz
      have hd:Nat.blt d n=true:=zaX hb
      have hg:=Nat.eq_of_beq_eq_true (zaT hb);subst hg
      obtain⟨r0,e0,k1,k2,b,mb,ck,seen,rfl,rfl,hK,e1,k3,k4⟩:=R.objN hi
      obtain⟨r1,e2,k5,k6,b2,ents,ck2,rfl,rfl,hM,hlt⟩:=R.objN hm
      rw[k6]at k3;cases k3
      obtain⟨_,k7⟩:=k4 _ _ _ _ rfl
      obtain⟨rfl,rfl,k8⟩:=k7 rfl
      obtain⟨l,hl,hA⟩:=hM.perm
      have hv:=R.sl t
      rw[ht]at hv
      obtain⟨b3,hv,e3,q1,q2⟩:=hv
      rw[k2]at q1;cases q1
      have:=q2 _ rfl;subst this
      have hh:w.heap[b]? = some (.mapIter (some b2) ck2 seen ck2):=R.hs.own i _ k1
      have hh2:w.heap[b2]? = some (.map ents.toArray ck2):=R.hs.own mid _ k5
      have exec:∀{u w'},(Instr.next (.pointer (some ⟨b,0,none⟩)) false ty).run P w = .ok u w'->(execOp (evO n m) ⟨some d,.next (.tmp t) false,ty,pos,aft,none⟩).run P w = .ok (.value u) w':=fun {u w'} h=>by
       have hv:evO n m (.tmp t) = .pointer (some ⟨b,0,none⟩):=hv
       simp[execOp,hv,h,Result.andThen]
      rcases run_next_at (P:=P) w ty b b2 ck2 ck2 seen ents.toArray ck2 hh hh2 (by simpa using hlt) (Nat.le_refl _)with⟨h0,hrun⟩|⟨en,hen,w1,hw1,hrun⟩
      ·rw[exec hrun]
       have hnil:rngC (keq K) es left=[]:=by
        rw[rngC,List.filter_eq_nil_iff]
        intro p hp hany
        obtain⟨k,hk,hke⟩:=List.any_eq_true.1 hany
        obtain⟨en,hen,h1⟩:=A2.mem_l hA p (hl.mem_iff.2 hp)
        have h2:en.born∉seen:=fun h=>((k8 en hen).1.1 h) k hk (by rw[yaF hK h1.1,(zlD hK).1 hke])
        have:en∈(leftOf ents.toArray seen):=by simp[leftOf,hen,h2]
        have h3:=Array.size_pos_of_mem this
        omega
       rw[hnil]at hz
       exact⟨_,_,hz _ List.mem_cons_self,R.put (x:=.tup [.v .b false]) ⟨[.bool false],rfl,.cons (show rep .b S [.bool false] false from rfl) .nil⟩ hd⟩
      ·rw[exec hrun]
       have hen':en∈ents/\en.born∉seen:=by simpa[leftOf]using hen
       obtain⟨p,hp,hpe⟩:=A2.mem_r hA en hen'.1
       have hkey:=yaF hK hpe.1
       have hex:∃k∈left,en.key=kv K k:=by
        refine Classical.byContradiction fun hno=>hen'.2 ((k8 en hen'.1).1.2 fun k hk h=>hno ⟨k,hk,h⟩)
       obtain⟨k,hk,hkk⟩:=hex
       have hpk:p.1=k:=yjI hK (hkey.symm.trans hkk)
       have hpm:p∈rngC (keq K) es left:=by
        rw[rngC,List.mem_filter]
        exact⟨hl.mem_iff.1 hp,List.any_eq_true.2 ⟨k,hk,(zlD hK).2 hpk⟩⟩
       have h1:=hz _ (xfG (d:=g0 (σ.put d (.tup [.v .b false]))) (f:=fun p=>g0 ⟨(d,.tup [.v .b true,svOf K p.1,svOf V p.2])::σ.sl,setN σ.hp i (.it mid gn K (some p.1) (rngD (keq K) left p.1))⟩) hpm)
       have H1:HS B S w1 L:=by
        rcases hw1 with rfl|rfl
        ·exact R.hs
        ·exact R.hs.drew
       have hh1:w1.heap=w.heap:=by rcases hw1 with rfl|rfl<;>rfl
       have hlt1:b<w1.heap.size:=by rw[hh1];exact lt_of_heap hh
       have H2:HS B S (Go.ChangeMaps.setBlock w1 b (.mapIter (some b2) ck2 (seen.push en.born) ck2)) (stR L i (.obj b (.mapIter (some b2) ck2 (seen.push en.born) ck2))):=by
        refine H1.upd k1 (by simp[Go.ChangeMaps.setBlock]) rfl rfl rfl (fun j hj hne=>?_) ?_ fun b' hb'=>.inl hb'
        ·have:j≠b:=fun e=>hne (by rw[e];rfl)
         simp[Go.ChangeMaps.setBlock,Ne.symm this]
        ·show((Go.ChangeMaps.setBlock w1 b _).heap)[b]? = _
         simp[Go.ChangeMaps.setBlock,hlt1]
       have hA1:=hA
       have R1:=R.upd1 (o':=.it mid gn K (some p.1) (rngD (keq K) left p.1)) k2 H2 ⟨b,b2,ck2,seen.push en.born,rfl,rfl,hK,_,k6,fun g2 b4 c2 es2 he=>by
        cases he
        refine⟨Nat.le_refl _,fun _=>⟨rfl,rfl,fun e4 he4=>⟨?_,fun c hc=>?_⟩⟩⟩
        ·have hkb:e4.key=en.key↔e4.born=en.born:=xbJ hK hM he4 hen'.1
         rw[Array.mem_push,(k8 e4 he4).1]
         constructor
         ·rintro(h|h) k' hk'
          ·exact h k' (List.mem_filter.1 hk').1
          ·rw[hkb.2 h,hkey]
           intro h5
           have:=(List.mem_filter.1 hk').2
           rw[(zlD hK).2 (yjI hK h5).symm]at this;cases this
         ·intro h
          by_cases h5:e4.born=en.born
          ·exact .inr h5
          ·refine .inl fun k' hk' h6=>h k' (List.mem_filter.2 ⟨hk',?_⟩) h6
           rw[Bool.not_eq_true',zsL hK]
           intro h7
           exact h5 (hkb.1 (by rw[h6,h7,hkey]))
        ·cases hc
         rw[<-hkey,Array.back?_push]
         exact(xbJ hK hM he4 hen'.1).trans ⟨fun h=>by rw[h],fun h=>(osi h).symm⟩⟩
       refine⟨_,_,h1,R1.put (x:=.tup [.v .b true,svOf K p.1,svOf V p.2]) ⟨[.bool true,en.key,en.val],rfl,.cons (show rep .b S [.bool true] true from rfl) (.cons (ztJ hpe.1) (.cons (ztJ hpe.2) .nil))⟩ hd⟩
    ·exact bad hz
   ·exact bad hz
  ·exact bad hz
 ·exact bad hz
def Good(P:Program)(N0 n:Nat)(B:Bas)(c:Code){β:Type}(rn:(Ex->St->Option β)->Option β)(S:Mem)(E:List EI)(m:FM)(w:World):Prop:=
 ∀(k:Ex->St->Option β) (r:β) (Q:Exit->Act->World->Prop),rn k=some r->(∀e σ' S' E' L' m' w',k e σ'=some r->Mem.le S S'->Pin N0 E E'->Agr (zdC c) m m'->Rel n B S' E' L' σ' m' w'->Q (exQ e) (fr n m') w')->c.wp P Q (fr n m) w
theorem zqD{α γ:Type}{o:Option α}{f:α->Option γ}{r:γ}(h:Option.bind o f=some r):∃x,o=some x/\f x=some r:=bnd h
theorem zuU(hm:P.follows .mixedOrders=true)(hτ:TEok P τ)(hΓ:CTok P Γ B):∀(c:Code) {β:Type} {σ:St} {S:Mem} {E:List EI} {L:List Res} {m:FM} {w:World},Rel n B S E L σ m w->Good P N0 n B c (β:=β) (run N0 n τ Γ η c σ) S E m w
 |.skip,_,σ,S,E,L,m,w,R,k,r,Q,h,hQ=>wp_skip (hQ .normal _ _ _ _ _ _ h (Mem.le_refl _) (Pin.refl _ _) (Agr.refl _ _) R)
 |.exit id,_,σ,S,E,L,m,w,R,k,r,Q,h,hQ=>wp_exit (hQ (.exit id) _ _ _ _ _ _ h (Mem.le_refl _) (Pin.refl _ _) (Agr.refl _ _) R)
 |.ret,_,σ,S,E,L,m,w,R,k,r,Q,h,hQ=>wp_ret (hQ .ret _ _ _ _ _ _ h (Mem.le_refl _) (Pin.refl _ _) (Agr.refl _ _) R)
 |.region id ops d,_,σ,S,E,L,m,w,R,k,r,Q,h,hQ=>by
  obtain⟨ops⟩:=ops
  cases d with
  |true=>exact xcQ hm hτ hΓ R h (fun σ' S' E' L' m' w' h1 h2 h3 h4 R1=>hQ .normal _ _ _ _ _ _ h1 h2 (Pin.of h3) h4 R1)
  |false=>exact wp_region_lit (ybI hτ hΓ (fun σ' S' E' L' m' w' h1 h2 h3 h4 R1=>hQ .normal _ _ _ _ _ _ h1 h2 (Pin.of h3) h4 R1) ops (fun _ h=>h) (Mem.le_refl _) (ELe.refl _) (Agr.refl _ _) R h)
 |.cond c a b,_,σ,S,E,L,m,w,R,k,r,Q,h,hQ=>by
  simp only[run]at h
  split at h
  ·rename_i t hc
   have hv:evO n m c = .bool t:=vB (zbM R hc)
   refine yqY hv (fun ht=>?_) (fun ht=>?_)
   ·subst ht;exact zuU hm hτ hΓ a R k r Q h (fun e σ' S' E' L' m' w' h1 h2 hP h3 R1=>hQ e σ' S' E' L' m' w' h1 h2 hP h3.l R1)
   ·subst ht;exact zuU hm hτ hΓ b R k r Q h (fun e σ' S' E' L' m' w' h1 h2 hP h3 R1=>hQ e σ' S' E' L' m' w' h1 h2 hP h3.r R1)
  ·cases h
 |.seq a b,_,σ,S,E,L,m,w,R,k,r,Q,h,hQ=>by
  have next:∀e σ' S' E' L' m' w',nx k (fun σ=>run N0 n τ Γ η b σ k) e σ'=some r->Mem.le S S'->Pin N0 E E'->Agr (zdC a) m m'->Rel n B S' E' L' σ' m' w'->Exit.then (b.wp P Q) Q (exQ e) (fr n m') w':=fun e σ' S' E' L' m' w' h1 hS hP hA R1=>by
   cases e with
   |normal=>exact zuU hm hτ hΓ b R1 k r Q h1 (fun e σ' S' E' L' m' w' h1 h2 hP2 h3 R1=>hQ e σ' S' E' L' m' w' h1 (Mem.le_trans hS h2) (hP.trans hP2) ((Agr.l hA).trans (Agr.r h3)) R1)
   |exit i=>exact hQ (.exit i) _ _ _ _ _ _ h1 hS hP hA.l R1
   |ret=>exact hQ .ret _ _ _ _ _ _ h1 hS hP hA.l R1
  simp only[run]at h
  refine wp_seq ?_
  split at h
  ·rename_i mk kp outs hj
   obtain⟨d,h1,h2⟩:=zqD h
   obtain⟨S0,E0,L0,hS0,hE0,R0⟩:=zyX mk R
   refine zuU hm hτ hΓ a R0 (inj N0 outs) d _ h1 fun e σ' S' E' L' m' w' h3 hS hP hA R1=>?_
   obtain⟨S2,E2,L2,σ2,hS2,hP2,R2,_,_,h4⟩:=yaB R1 (kp:=ztS (zdC a) (zuP σ mk) kp) (fun S'' E'' hS'' t=>zsM R0 (Mem.le_trans hS hS'') hA kp t) h3
   rw[h4]at h2
   exact next e σ2 _ _ _ _ _ h2 (Mem.le_trans hS0 (Mem.le_trans hS hS2)) ((Pin.of hE0).trans (hP.trans hP2)) hA R2
  ·exact zuU hm hτ hΓ a R _ r _ h next
 |.block id b,_,σ,S,E,L,m,w,R,k,r,Q,h,hQ=>by
  have next:∀e σ' S' E' L' m' w',blk id k e σ'=some r->Mem.le S S'->Pin N0 E E'->Agr (zdC b) m m'->Rel n B S' E' L' σ' m' w'->Exit.inBlock id Q (exQ e) (fr n m') w':=fun e σ' S' E' L' m' w' h1 hS hP hA R1=>by
   cases e with
   |normal=>exact hQ .normal _ _ _ _ _ _ h1 hS hP hA R1
   |ret=>exact hQ .ret _ _ _ _ _ _ h1 hS hP hA R1
   |exit i=>
    simp only[blk]at h1
    cases hb:Nat.beq i id with
    |true=>
     rw[hb]at h1
     have:=Nat.eq_of_beq_eq_true hb;subst this
     exact xgG (hQ .normal _ _ _ _ _ _ h1 hS hP hA R1)
    |false=>rw[hb]at h1;exact yxG hb (hQ (.exit i) _ _ _ _ _ _ h1 hS hP hA R1)
  simp only[run]at h
  refine wp_block ?_
  split at h
  ·rename_i mk kp outs hj
   obtain⟨d,h1,h2⟩:=zqD h
   obtain⟨S0,E0,L0,hS0,hE0,R0⟩:=zyX mk R
   refine zuU hm hτ hΓ b R0 _ d _ h1 fun e σ' S' E' L' m' w' h3 hS hP hA R1=>?_
   have fin:∀e',inj N0 outs e' σ'=some d->Q (exQ e') (fr n m') w':=fun e' h3=>by
    obtain⟨S2,E2,L2,σ2,hS2,hP2,R2,_,_,h4⟩:=yaB R1 (kp:=ztS (zdC b) (zuP σ mk) kp) (fun S'' E'' hS'' t=>zsM R0 (Mem.le_trans hS hS'') hA kp t) h3
    rw[h4]at h2
    exact hQ e' σ2 _ _ _ _ _ h2 (Mem.le_trans hS0 (Mem.le_trans hS hS2)) ((Pin.of hE0).trans (hP.trans hP2)) hA R2
   cases e with
   |normal=>exact fin .normal h3
   |ret=>exact fin .ret h3
   |exit i=>
    simp only[blk]at h3
    cases hb:Nat.beq i id with
    |true=>
     rw[hb]at h3
     have:=Nat.eq_of_beq_eq_true hb;subst this
     exact xgG (fin .normal h3)
    |false=>rw[hb]at h3;exact yxG hb (fin (.exit i) h3)
  ·exact zuU hm hτ hΓ b R _ r _ h next
 |.loop b,_,σ,S,E,L,m,w,R,k,r,Q,h,hQ=>by
  simp only[run]at h
  split at h
  ·rename_i mk s kp outs hj
   split at h
   ·rename_i s0 hs0
    obtain⟨d,h1,h2⟩:=zqD h
    obtain⟨S0,E0,L0,hS0,hE0,R0⟩:=zyX mk R
    obtain⟨S1,E1,L1,hS1,hP1,R1⟩:=zzQ R0 (fun l=>ziI l R0) hs0
    have hQ:∀e σ' S' E' L' m' w',k e σ'=some r->Mem.le S0 S'->Pin N0 E0 E'->Agr (zdC b) m m'->Rel n B S' E' L' σ' m' w'->Q (exQ e) (fr n m') w':=fun e σ' S' E' L' m' w' h1 h2 h3 h4 h5=>hQ e σ' S' E' L' m' w' h1 (Mem.le_trans hS0 h2) ((Pin.of hE0).trans h3) h4 h5
    clear hS0 hE0 R
    generalize zuP σ mk=σ at *
    refine xaZ (fun g a w=>∃m' x S' E' L',a=fr n m'/\Mem.le S0 S'/\Pin N0 E0 E'/\Agr (zdC b) m m'/\Rel n B S' E' L' (s.put x) m' w/\zoW (fun x=>run N0 n τ Γ η b ((s.put x).app (ztS (zdC b) σ kp)) (nx (fun e σ=>mapO Sum.inr (inj N0 outs e σ)) fun σ=>mapO Sum.inl (s.get N0 σ))) g x=some d) FU ⟨m,s0,S1,E1,L1,rfl,hS1,hP1,Agr.refl _ _,R1,h1⟩ ?_
    rintro g a w ⟨m2,x,S2,E2,L2,rfl,hS2,hP2,hA2,R2,hit⟩
    cases g with
    |zero=>cases hit
    |succ g=>
     obtain⟨o,h3,h4⟩:=xbZ hit
     refine zuU hm hτ hΓ b (R2.app (zsM R0 hS2 hA2 kp)) _ o _ h3 fun e σ' S' E' L' m' w' h5 hS3 hP3 hA3 R3=>?_
     have hSS:=Mem.le_trans hS2 hS3
     have hAA:=hA2.trans hA3
     have fin:∀e',mapO Sum.inr (inj N0 outs e' σ')=some o->Q (exQ e') (fr n m') w':=fun e' h5=>by
      obtain⟨d',h6,rfl⟩:=znA h5
      have h7:d'=d:=by cases h4;rfl
      subst h7
      obtain⟨S4,E4,L4,σ4,hS4,hP4,R4,_,_,h8⟩:=yaB R3 (kp:=ztS (zdC b) σ kp) (fun S'' E'' hS'' t=>zsM R0 (Mem.le_trans hSS hS'') hAA kp t) h6
      rw[h8]at h2
      exact hQ e' σ4 _ _ _ _ _ h2 (Mem.le_trans hSS hS4) ((hP2.trans hP3).trans hP4) hAA R4
     cases e with
     |normal=>
      obtain⟨x',h6,rfl⟩:=znA h5
      obtain⟨S4,E4,L4,hS4,hP4,R4⟩:=zzQ R3 (fun l=>ziI l R3) h6
      exact⟨g,Nat.lt_succ_self g,m',x',S4,E4,L4,rfl,Mem.le_trans hSS hS4,(hP2.trans hP3).trans hP4,hAA,R4,h4⟩
     |exit i=>exact fin (.exit i) h5
     |ret=>exact fin .ret h5
   ·cases h
  ·rename_i mk s kp outs hj
   split at h
   ·rename_i id ops c
    split at h
    ·rename_i d t ty pos aft l hops
     split at h
     ·rename_i s0 hs0
      obtain⟨dd,h1,h2⟩:=zqD h
      obtain⟨fuel,hrng⟩:=ymE h1
      obtain⟨S0,E0,L0,hS0,hE0,R0⟩:=zyX mk R
      obtain⟨S1,E1,L1,hS1,hP1,R1⟩:=zzQ R0 (fun l=>ziI l R0) hs0
      have hQ:∀e σ' S' E' L' m' w',k e σ'=some r->Mem.le S0 S'->Pin N0 E0 E'->Agr (zdC (.seq (.region id ops false) c)) m m'->Rel n B S' E' L' σ' m' w'->Q (exQ e) (fr n m') w':=fun e σ' S' E' L' m' w' h1 h2 h3 h4 h5=>hQ e σ' S' E' L' m' w' h1 (Mem.le_trans hS0 h2) ((Pin.of hE0).trans h3) h4 h5
      clear hS0 hE0 R
      generalize zuP σ mk=σ at *
      refine xaZ (fun g a w=>∃m' x S' E' L',a=fr n m'/\Mem.le S0 S'/\Pin N0 E0 E'/\Agr (zdC (.seq (.region id ops false) c)) m m'/\Rel n B S' E' L' (s.put x) m' w/\Rng (fun x=>yxT n ((s.put x).app (ztS (zdC (.seq (.region id ops false) c)) σ kp)) d t fun σ=>steps n τ Γ ops.toList l σ fun σ=>run N0 n τ Γ η c σ (nx (fun e σ=>mapO Sum.inr (inj N0 outs e σ)) fun σ=>mapO Sum.inl (s.get N0 σ))) g x dd) fuel ⟨m,s0,S1,E1,L1,rfl,hS1,hP1,Agr.refl _ _,R1,hrng⟩ ?_
      rintro g a w ⟨m2,x,S2,E2,L2,rfl,hS2,hP2,hA2,R2,hit⟩
      cases g with
      |zero=>exact hit.elim
      |succ g=>
       have hD:∀t',hasN (zsO (⟨some d,.next (.tmp t) false,ty,pos,aft,none⟩::l)) t'=true->hasN (zdC (.seq (.region id ops false) c)) t'=true:=fun t' ht'=>by
        show hasN (zsO ops.toList++zdC c) t'=true
        rw[zmU,hops,ht'];rfl
       obtain⟨ops⟩:=ops
       have hops:ops=_:=hops
       subst hops
       refine wp_seq (wp_region_lit (xnQ (zrY rfl) (yzY (R2.app (zsM R0 hS2 hA2 kp)) (Z:=rngO (fun s'=>Rng _ g s' dd) dd) (fun h=>h) hit) ?_))
       rintro v w' ⟨σ1,L3,hy,R3⟩
       generalize hyo:(steps n τ Γ _ l σ1 fun σ=>run N0 n τ Γ η c σ (nx (fun e σ=>mapO Sum.inr (inj N0 outs e σ)) fun σ=>mapO Sum.inl (s.get N0 σ)))=o at hy
       match o,hy with
       |some y,hy2=>
        rw[ydH]
        refine ybI hτ hΓ (D:=zdC (.seq (.region id _ false) c)) (S0:=S2) (E0:=E2) (m0:=m2) (fun σ' S' E' L' m' w' h5 hS3 hE3 hA3 R4=>?_) l (fun t' ht'=>hD t' (ycI ht')) (Mem.le_refl _) (ELe.refl _) (Agr.put (hD d (ycT rfl))) R3 hyo
        refine zuU hm hτ hΓ c R4 _ y _ h5 fun e σ' S' E' L' m' w' h5 hS4 hP4 hA4 R4=>?_
        have hSS:=Mem.le_trans hS2 (Mem.le_trans hS3 hS4)
        have hAA:=hA2.trans (hA3.trans hA4.r)
        have hPP:=(hP2.trans (Pin.of hE3)).trans hP4
        have fin:∀e',mapO Sum.inr (inj N0 outs e' σ')=some y->Q (exQ e') (fr n m') w':=fun e' h5=>by
         obtain⟨d',h6,rfl⟩:=znA h5
         have h7:d'=dd:=hy2
         subst h7
         obtain⟨S4,E4,L4,σ4,hS4,hP4,R4,_,_,h8⟩:=yaB R4 (kp:=ztS (zdC (.seq (.region id _ false) c)) σ kp) (fun S'' E'' hS'' t=>zsM R0 (Mem.le_trans hSS hS'') hAA kp t) h6
         rw[h8]at h2
         exact hQ e' σ4 _ _ _ _ _ h2 (Mem.le_trans hSS hS4) (hPP.trans hP4) hAA R4
        cases e with
        |normal=>
         obtain⟨x',h6,rfl⟩:=znA h5
         obtain⟨S4,E4,L4,hS4,hP4,R4⟩:=zzQ R4 (fun l=>ziI l R4) h6
         exact⟨g,Nat.lt_succ_self g,m',x',S4,E4,L4,rfl,Mem.le_trans hSS hS4,hPP.trans hP4,hAA,R4,hy2⟩
        |exit i=>exact fin (.exit i) h5
        |ret=>exact fin .ret h5
     ·cases h
    ·cases h
   ·cases h
  ·cases h
theorem yqG{s:Sem Value}{u:Value}(h:(do pure (Next.value (<-s)):Sem Next).run P w = .ok (.value u) w):s.run P w = .ok u w:=by
 rw[Sem.run_bind]at h
 cases hs:s.run P w with
 |ok v w'=>
  rw[hs]at h
  simp only[Result.andThen_ok,Sem.run_pure]at h
  injection h with h1 h2
  injection h1 with h1
  rw[h1,h2]
 |halt x w'=>rw[hs]at h;cases h
theorem xkN(hτ:TEok P τ)(R:Rel n B S E L σ m w){v:ResultVar}{x:SV}(h:resV τ σ v=some x):∃u,VR S E x u/\(resS (fr n m).tmps v).run P w = .ok u w:=by
 cases v with
 |tmp t=>
  cases h
  exact⟨_,R.sl t,ypW rfl⟩
 |cell t T=>
  simp only[resV]at h
  split at h
  ·rename_i f hT
   have h':deref σ.hp (lkS σ.sl t) f.sz (fun l=>bindS (svAt f l) some)=some x:=by
    have e1:(fun l=>bindS (svAt f l) some)=fun l=>svAt f l:=by funext l;cases svAt f l<;>rfl
    rw[e1];exact h
   obtain ⟨z, u, h1, h2, h3⟩ := xbA (dst := none) (g := none) (ty := 0) (pos := "") (aft := #[]) (a := .tmp t) (k := some) R (hτ _ _ hT) (R.sl t) h'
   cases h1
   refine⟨u,h2,?_⟩
   have h4:=yqG (h3 w R.hs)
   show(do loadVar T (<-asAddr ((fr n m).tmps.getD t undef)):Sem Value).run P w=_
   rw[yyU]
   have h5:(do loadVar T (<-Instr.sureAddr (evO n m (.tmp t))):Sem Value).run P w = .ok u w:=h4
   cases hp:evO n m (.tmp t) with
   |pointer a=>
    rw[hp]at h5
    cases a with
    |none=>simp[Instr.sureAddr]at h5
    |some a=>simpa[Instr.sureAddr,asAddr]using h5
   |_=>rw[hp]at h5;simp[Instr.sureAddr]at h5
  ·cases h
theorem yeT(hτ:TEok P τ)(R:Rel n B S E L σ m w):∀{l:List ResultVar} {xs:List SV},ycQ τ σ l=some xs->∃us,A2 (VR S E) xs us/\(l.mapM (resS (fr n m).tmps)).run P w = .ok us w
 |[],xs,h=>by cases h;exact⟨[],.nil,by simp⟩
 |v::l,xs,h=>by
  unfold ycQ at h
  split at h
  ·rename_i x y h1 h2
   cases h
   obtain⟨u,h3,h4⟩:=xkN hτ R h1
   obtain⟨us,h5,h6⟩:=yeT hτ R h2
   exact⟨u::us,.cons h3 h5,by simp only[List.mapM_cons,Sem.run_bind,h4,Result.andThen_ok,h6,Sem.run_pure]⟩
  ·cases h
theorem ysM:∀{l:List Ty} {us:LV} {x:zcL l},repA S l us x->us.length=l.length
 |[],us,_,h=>by have:us=[]:=h;subst this;rfl
 |[_],_,_,⟨_,e,_⟩=>by rw[e];rfl
 |_::t'::l,_,_,⟨_,_,e,_,h⟩=>by rw[e];simp[ysM h]
theorem xoN{l:List Ty}{us:LV}{x:zcL l}(h:repA S l us x):repR S l (if h:us.toArray.size=1 then us.toArray[0]else .tuple us.toArray) x:=by
 match l,x,h with
 |[],x,h=>have:us=[]:=h;subst this;exact⟨[],rfl,rfl⟩
 |[t],x,⟨u,e,h1⟩=>subst e;exact h1
 |t::t'::l,x,h=>
  have hl:=ysM h
  rw[dif_neg (by simp at hl ⊢;omega)]
  exact⟨us,rfl,h⟩
theorem yyY:∀{xs:List SV} {us:LV} (i t:Nat),A2 (VR S E) xs us->VR S E (lkS (argS i xs) t) (look (argm us i) t)
 |_,_,i,t,.nil=>trivial
 |_,_,i,t,.cons a r=>by
  unfold argS lkS argm look
  cases Nat.beq i t with
  |true=>exact a
  |false=>exact yyY (i+1) t r
theorem yoU:∀(us:LV) (i t:Nat),look (argm us i) t=if i<=t then us.getD (t-i) undef else undef
 |[],i,t=>by simp[argm,look]
 |u::us,i,t=>by
  unfold argm look
  rw[yoU us (i+1) t]
  cases hb:Nat.beq i t with
  |true=>
   have:=Nat.eq_of_beq_eq_true hb;subst this
   simp
  |false=>
   have hne:i≠t:=fun e=>by subst e;rw[Nat.beq_refl]at hb;cases hb
   simp only[cond_false]
   by_cases h:i<=t
   ·rw[if_pos h,if_pos (by omega),show t-i=(t-(i+1))+1 by omega,List.getD_cons_succ]
   ·rw[if_neg h,if_neg (by omega)]
theorem ylZ:∀(ash:List Sh) (l:List SV),(putL ash l).1.length=ash.length
 |[],_=>rfl
 |a::ash,l=>by simp only[putL,List.length_cons,ylZ ash]
theorem yhG:∀{xs:List SV} {i t:Nat},i+xs.length<=t->lkS (argS i xs) t = .undef
 |[],_,_,_=>rfl
 |x::xs,i,t,h=>by
  simp only[List.length_cons]at h
  unfold argS lkS
  have:Nat.beq i t=false:=by rw[zqQ];simp;omega
  rw[this]
  exact yhG (by omega)
theorem xgR{G:List (Nat×Obj)}{S0:Mem}{w0:World}(hG:GS G S0)(hS:Sub S0 w0):GB G ⟨S0,[],w0⟩:=fun p hp=>⟨(Array.getElem?_eq_some_iff.1 (hS _ _ (hG p hp))).1,by simp,hG p hp⟩
theorem xqN{G:List (Nat×Obj)}{B:Bas}{S0:Mem}{w0:World}{L0:List Res}(hG:GS G S0)(H:HS B S0 w0 L0):GB G ⟨S0,zbF L0,w0⟩:=fun p hp=>by
 refine⟨(Array.getElem?_eq_some_iff.1 (H.sub _ _ (hG p hp))).1,fun h=>?_,hG p hp⟩
 obtain⟨k,r,h1,h2⟩:=zdW.1 h
 have:=(H.old k r _ h1 h2).2
 rw[hG p hp]at this;cases this
theorem xtP{G:List (Nat×Obj)}{f:FuncId}{fn:Func}{ats:List Sh}{rts:List Ty}(hm:P.follows .mixedOrders=true)(hτ:TEok P τ)(hΓ:∀B,GB G B->CTok P Γ B)(hf:P.funcs[f]? = some fn)(hfn:IsFn P f)(hl:Nat.ble ats.length fn.ntmps=true):PCok P G f ⟨ats,rts,fnP τ Γ η fn ats rts,false⟩:=by
 refine⟨hfn,fun S0 w0 us a y hG hS ha hy=>?_⟩
 have hy:fnP τ Γ η fn ats rts a=some y:=hy
 have ha:A2 (VR S0 []) (putL ats (znN _ a)).1 us:=ha
 have hul:us.length=ats.length:=by rw[<-ha.len,ylZ]
 unfold fnP at hy
 split at hy
 ·cases hy
 ·rename_i c hb
  refine enter hf hb rfl (by rw[hul];exact hl) ?_
  have R0:Rel fn.ntmps ⟨S0,[],w0⟩ S0 [] [] ⟨argS 0 (putL ats (znN _ a)).1,[]⟩ (argm us 0) w0:=by
   refine⟨HS.start hS,rfl,rfl,fun i o h=>by simp at h,fun t=>?_⟩
   show VR S0 [] (lkS (argS 0 (putL ats (znN _ a)).1) t) (bif Nat.blt t fn.ntmps then look (argm us 0) t else undef)
   cases ht:Nat.blt t fn.ntmps with
   |true=>exact yyY 0 t ha
   |false=>
    rw[zmI]at ht
    have h1:=of_decide_eq_false ht
    have h2:=Nat.le_of_ble_eq_true hl
    rw[yhG (by rw[ylZ];omega)]
    trivial
  refine zuU hm hτ (hΓ _ (xgR hG hS)) c R0 (fin τ fn rts) y _ hy fun e σ' S' E' L' m' w' h1 _ _ _ R1=>?_
  have key:∀(_:(match ycQ τ σ' fn.results.toList with
    |some l=>match ycQ τ (frzL σ' (l.flatMap owns)) fn.results.toList with
     |some l=>ykQ [] rts l
     |none=>none
    |none=>none)=some y),(fr fn.ntmps m').defers=[]/\∃v,(results fn (fr fn.ntmps m').tmps).run P w' = .ok v w'/\∃v',Ending.returned v = .returned v'/\Ext w0 w'/\repR (gr S0 w0 w') rts v' y:=fun h1=>by
   split at h1
   ·rename_i l hl1
    split at h1
    ·rename_i l2 hl2
     obtain⟨S2,E2,L2,_,_,R2⟩:=ziI (l.flatMap owns) R1
     obtain⟨vs,h3,h4⟩:=yeT (P:=P) hτ R2 hl2
     have h5:=yrO (S2:=gr S0 w0 w') R2.hs.gr zfT rts h1 h3
     refine⟨rfl,_,?_,_,rfl,R2.hs.toExt,xoN h5⟩
     rw[zuM,Array.mapM_eq_mapM_toList]
     simp only[Sem.run_bind,Sem.run_map,h4,Result.andThen_ok,Sem.run_pure]
    ·cases h1
   ·cases h1
  cases e with
  |normal=>
   obtain⟨h2,v,h3,v',h4,h5,h6⟩:=key h1
   cases h4
   exact⟨h2,v,h3,h5,v,rfl,h6,fun h=>by cases h⟩
  |ret=>
   obtain⟨h2,v,h3,v',h4,h5,h6⟩:=key h1
   cases h4
   exact⟨h2,v,h3,h5,v,rfl,h6,fun h=>by cases h⟩
  |exit i=>cases h1
theorem ysO:∀(us:LV) (pre:LV),zvN (fun t=>(pre++us).getD t undef) pre.length us.length=us
 |[],_=>rfl
 |u::us,pre=>by
  have h1:=ysO us (pre++[u])
  simp only[List.length_append,List.length_singleton,List.append_assoc,List.singleton_append]at h1
  simp only[List.length_cons,zvN,h1]
  congr 1
  simp
theorem xcY(us:LV):zvN (fun t=>us.getD t undef) 0 us.length=us:=ysO us []
theorem xeS(us:LV):(if h:us.toArray.size=1 then us.toArray[0]else .tuple us.toArray)=zwS us:=by
 match us with
 |[]=>rfl
 |[u]=>rfl
 |u::u'::us=>rw[dif_neg (by simp)];rfl
theorem yoB:∀{l:List ResultVar} {xs:List SV},ycQ τ σ l=some xs->xs.length=l.length
 |[],_,h=>by cases h;rfl
 |v::l,_,h=>by
  unfold ycQ at h
  split at h
  ·rename_i h2;cases h;simp[yoB h2]
  ·cases h
theorem yrJ{f:FuncId}{fn:Func}{c:Code}{N0 nr:Nat}{outs:List (Option Nat×Shp)}{S0:Mem}{w0:World}{us:LV}{E0:List EI}{L0:List Res}{σ0:St}{d:DS outs}{rn:(Ex->St->Option (DS outs))->Option (DS outs)}(hτ:TEok P τ)(hf:P.funcs[f]? = some fn)(hb:fn.body=some c)(hl:us.length<=fn.ntmps)(hr:Nat.beq fn.results.toList.length nr=true)
  (R:RelV ⟨S0,zbF L0,w0⟩ S0 E0 L0 σ0 (fun t=>us.getD t undef) w0) (hg:Rel fn.ntmps ⟨S0,zbF L0,w0⟩ S0 E0 L0 σ0 (argm us 0) w0->Good P N0 fn.ntmps ⟨S0,zbF L0,w0⟩ c rn S0 E0 (argm us 0) w0) (hy:rn (finS τ fn N0 outs)=some d):
  Calls P f us.toArray w0 fun e w'=>∃v,e = .returned v/\∃S' E' L' σo V',(∀{γ:Type} (k:Ex->St->Option γ),out [] outs d k=k .normal σo)/\Mem.le S0 S'/\Pin N0 E0 E'/\RelV ⟨S0,zbF L0,w0⟩ S' E' L' σo V' w'/\Ver0 σo.hp/\N0<=σo.hp.length/\v=zwS (zvN V' 0 nr):=by
 refine enter hf hb rfl (Nat.ble_eq_true_of_le hl) ?_
 have R0:Rel fn.ntmps ⟨S0,zbF L0,w0⟩ S0 E0 L0 σ0 (argm us 0) w0:=by
  refine⟨R.hs,R.lL,R.lE,R.obj,fun t=>?_⟩
  have h1:=R.sl t
  show VR S0 E0 (lkS σ0.sl t) (bif Nat.blt t fn.ntmps then look (argm us 0) t else undef)
  cases ht:Nat.blt t fn.ntmps with
  |true=>
   have:=yoU us 0 t
   rw[if_pos (Nat.zero_le t)]at this
   rw[cond_true,this];exact h1
  |false=>
   rw[zmI]at ht
   have h2:=of_decide_eq_false ht
   rw[cond_false]
   have h3:us.getD t undef=undef:=by rw[List.getD_eq_getElem?_getD,List.getElem?_eq_none (by omega)];rfl
   rw[<-h3];exact h1
 refine hg R0 (finS τ fn N0 outs) d _ hy fun e σ' S' E' L' m' w' h1 hS hP _ R1=>?_
 have key:∀(_:(match ycQ τ σ' fn.results.toList with
   |some l=>inj N0 outs .normal ⟨argS 0 l,σ'.hp⟩
   |none=>none)=some d),(fr fn.ntmps m').defers=[]/\∃v,(results fn (fr fn.ntmps m').tmps).run P w' = .ok v w'/\∃v',Ending.returned v = .returned v'/\∃S' E' L' σo V',(∀{γ:Type} (k:Ex->St->Option γ),out [] outs d k=k .normal σo)/\Mem.le S0 S'/\Pin N0 E0 E'/\RelV ⟨S0,zbF L0,w0⟩ S' E' L' σo V' w'/\Ver0 σo.hp/\N0<=σo.hp.length/\v'=zwS (zvN V' 0 nr):=fun h1=>by
  split at h1
  ·rename_i l hl1
   obtain⟨vs,h3,h4⟩:=yeT (P:=P) hτ R1 hl1
   have R2:RelV ⟨S0,zbF L0,w0⟩ S' E' L' ⟨argS 0 l,σ'.hp⟩ (fun t=>vs.getD t undef) w':=⟨R1.hs,R1.lL,R1.lE,R1.obj,fun t=>by
    have:=yjW 0 t h3
    rw[if_pos (Nat.zero_le t)]at this
    exact this⟩
   obtain⟨S2,E2,L2,σ2,hS2,hP2,R3,hv,hn,h5⟩:=yaB R2 (kp:=[]) (fun _ _ _ _=>trivial) h1
   refine⟨rfl,zwS vs,?_,zwS vs,rfl,S2,E2,L2,σ2,_,h5,Mem.le_trans hS hS2,hP.trans hP2,R3,hv,hn,?_⟩
   ·rw[zuM,Array.mapM_eq_mapM_toList]
    simp only[Sem.run_bind,Sem.run_map,h4,Result.andThen_ok,Sem.run_pure,<-xeS]
   ·have h6:vs.length=nr:=by rw[<-h3.len,yoB hl1];exact Nat.eq_of_beq_eq_true hr
    rw[<-h6,xcY]
  ·cases h1
 cases e with
 |normal=>
  obtain⟨h2,v,h3,v',h4,h5⟩:=key h1
  cases h4
  exact⟨h2,v,h3,v,rfl,h5⟩
 |ret=>
  obtain⟨h2,v,h3,v',h4,h5⟩:=key h1
  cases h4
  exact⟨h2,v,h3,v,rfl,h5⟩
 |exit i=>cases h1
theorem yrA{f:FuncId}{fn:Func}{c:Code}{N0 nr:Nat}{outs:List (Option Nat×Shp)}{S0:Mem}{w0:World}{us:LV}{E0:List EI}{L0:List Res}{σ0:St}{d:DS outs}(hm:P.follows .mixedOrders=true)(hτ:TEok P τ)(hΓ:CTok P Γ ⟨S0,zbF L0,w0⟩)(hf:P.funcs[f]? = some fn)(hb:fn.body=some c)(hl:us.length<=fn.ntmps)(hr:Nat.beq fn.results.toList.length nr=true)
  (R:RelV ⟨S0,zbF L0,w0⟩ S0 E0 L0 σ0 (fun t=>us.getD t undef) w0) (hy:run N0 fn.ntmps τ Γ η c σ0 (finS τ fn N0 outs)=some d):
  Calls P f us.toArray w0 fun e w'=>∃v,e = .returned v/\∃S' E' L' σo V',(∀{γ:Type} (k:Ex->St->Option γ),out [] outs d k=k .normal σo)/\Mem.le S0 S'/\Pin N0 E0 E'/\RelV ⟨S0,zbF L0,w0⟩ S' E' L' σo V' w'/\Ver0 σo.hp/\N0<=σo.hp.length/\v=zwS (zvN V' 0 nr):=
 yrJ hτ hf hb hl hr R (fun R0=>zuU hm hτ hΓ c R0) hy
theorem xpW{G:List (Nat×Obj)}{f:FuncId}{fn:Func}{I:Shp}{nr:Nat}{outs:List (Option Nat×Shp)}(hm:P.follows .mixedOrders=true)(hτ:TEok P τ)(hΓ:∀B,GB G B->CTok P Γ B)(hf:P.funcs[f]? = some fn)(hfn:IsFn P f)(hl:Nat.ble I.sl.length fn.ntmps=true)(hr:Nat.beq fn.results.toList.length nr=true):SCok P G f ⟨I,nr,outs,fnS τ Γ η fn I outs⟩:=by
 refine⟨hfn,fun S0 w0 us E0 L0 a d hG hul R hy=>?_⟩
 have hy:fnS τ Γ η fn I outs a=some d:=hy
 have hul:us.length=I.sl.length:=hul
 unfold fnS at hy
 split at hy
 ·cases hy
 ·rename_i c hb
  exact yrA hm hτ (hΓ _ (xqN hG R.hs)) hf hb (by rw[hul];exact Nat.le_of_ble_eq_true hl) hr R hy
end
def PL(P:Program)(G:List (Nat×Obj)):List (Nat×PC)->Prop
 |[]=>True
 |x::l=>PCok P G x.1 x.2/\PL P G l
def SL(P:Program)(G:List (Nat×Obj)):List (Nat×SC)->Prop
 |[]=>True
 |x::l=>SCok P G x.1 x.2/\SL P G l
theorem PL.at{P:Program}{G:List (Nat×Obj)}:∀{l:List (Nat×PC)},PL P G l->∀f c,pcAt l f=some c->PCok P G f c
 |[],_,f,c,h=>by cases h
 |(d,x)::l,⟨h1,h2⟩,f,c,h=>by
  unfold pcAt at h
  cases hb:Nat.beq d f with
  |true=>rw[hb]at h;cases h;rw[<-Nat.eq_of_beq_eq_true hb];exact h1
  |false=>rw[hb]at h;exact PL.at h2 f c h
theorem SL.at{P:Program}{G:List (Nat×Obj)}:∀{l:List (Nat×SC)},SL P G l->∀f c,c∈scAt l f->SCok P G f c
 |[],_,f,c,h=>by cases h
 |(d,x)::l,⟨h1,h2⟩,f,c,h=>by
  unfold scAt at h
  cases hb:Nat.beq d f with
  |true=>
   rw[hb]at h
   rcases List.mem_cons.1 h with rfl|h
   ·rw[<-Nat.eq_of_beq_eq_true hb];exact h1
   ·exact SL.at h2 f c h
  |false=>rw[hb]at h;exact SL.at h2 f c h
theorem ctok{P:Program}{G:List (Nat×Obj)}{pc:List (Nat×PC)}{sc:List (Nat×SC)}{k:Bool}{fm:List (Nat×List FSh)}(h1:PL P G pc)(h2:SL P G sc):∀B,GB G B->CTok P ⟨pc,sc,k,fm⟩ B:=fun _B hG=>
 ⟨fun f c h=>⟨(h1.at f c h).fn,fun S w us a y hA=>(h1.at f c h).ok S w us a y (hA.gs hG)⟩,fun f c h=>⟨(h2.at f c h).fn,fun S w us E L a d hA=>(h2.at f c h).ok S w us E L a d (hA.gs hG)⟩⟩
theorem xgV{P:Program}{G:List (Nat×Obj)}{τ:TE}{Γ:CT}{η:HT}{f:FuncId}{fn:Func}{c:PC}(hm:P.follows .mixedOrders=true)(hτ:TEok P τ)(hΓ:∀B,GB G B->CTok P Γ B)(hf:P.funcs[f]? = some fn)(hfn:IsFn P f)(hl:Nat.ble c.ash.length fn.ntmps=true)(hc:c.cl=false)(he:fnP τ Γ η fn c.ash c.rts=c.p):PCok P G f c:=by
 have h:=xtP (η:=η) (rts:=c.rts) hm hτ hΓ hf hfn hl
 rw[he,<-hc]at h
 exact h
theorem xeL{P:Program}{G:List (Nat×Obj)}{τ:TE}{Γ:CT}{η:HT}{f:FuncId}{fn:Func}{c:SC}(hm:P.follows .mixedOrders=true)(hτ:TEok P τ)(hΓ:∀B,GB G B->CTok P Γ B)(hf:P.funcs[f]? = some fn)(hfn:IsFn P f)(hl:Nat.ble c.I.sl.length fn.ntmps=true)(hr:Nat.beq fn.results.toList.length c.nr=true)(he:fnS τ Γ η fn c.I c.outs=c.p):SCok P G f c:=by
 have h:=xpW (η:=η) (outs:=c.outs) hm hτ hΓ hf hfn hl hr
 rw[he]at h
 exact h
def keqS(x y:Bs):Bool:=x==y
def kltS(x y:Bs):Bool:=Op.bytesLess x y
abbrev hS:Sh:=.h .s
abbrev hI:Sh:=.h (.i .i64)
abbrev hB:Sh:=.h .b
def scal:Ty->Bool
 |.i _=>true
 |.b=>true
 |.s=>true
 |_=>false
def encV:(t:Ty)->den t->Value
 |.i k,x=>.int k (toI k x)
 |.b,x=>.bool x
 |.s,x=>str x
 |_,_=>undef
def encL:(l:List Ty)->zcL l->LV
 |[],_=>[]
 |[t],x=>[encV t x]
 |t::t'::l,x=>encV t x.1::encL (t'::l) x.2
def encR(l:List Ty)(x:zcL l):Value:=match l,x with
 |[t],x=>encV t x
 |l,x=>.tuple (encL l x).toArray
section
variable {S:Mem}{E:List EI}{P:Program}{G:List (Nat×Obj)}{f:FuncId}
theorem ykA:∀{t:Ty} {x:den t} {u:Value},scal t=true->VR S E (svOf t x) u->u=encV t x
 |.i k,x,u,_,h=>by
  have h:[u]=[Value.int k (toI k x)]:=h
  exact(List.cons.inj h).1
 |.b,x,u,_,h=>by
  have h:[u]=[Value.bool x]:=h
  exact(List.cons.inj h).1
 |.s,x,u,_,h=>by
  have h:[u]=[str x]:=h
  exact(List.cons.inj h).1
theorem ylS:∀{t:Ty} {x:den t},scal t=true->rep1 t S (encV t x) x
 |.i _,_,_=>rfl
 |.b,_,_=>rfl
 |.s,_,_=>rfl
theorem ytH:∀{l:List Ty} {x:zcL l},l.all scal=true->repA S l (encL l x) x
 |[],_,_=>rfl
 |[t],x,h=>⟨_,rfl,ylS (by simpa using h)⟩
 |t::t'::l,x,h=>⟨_,_,rfl,ylS (by simp at h;exact h.1),ytH (by simp at h ⊢;exact h.2)⟩
theorem ylC{l:List Ty}{x:zcL l}(h:l.all scal=true):repR S l (encR l x) x:=match l,x,h with
 |[t],x,h=>show rep1 t S (encV t x) x from ylS (by simpa using h)
 |[],_,_=>⟨[],rfl,rfl⟩
 |t::t'::l,x,h=>⟨_,rfl,ytH h⟩
theorem pc1{t1:Ty}{rts:List Ty}{p:den t1->Option (zcL rts)}(h1:scal t1=true)(hr:rts.all scal=true)(hfn:IsFn P f)
  (h:∀S w x y,GS G S->Sub S w->p x=some y->Calls P f #[encV t1 x] w fun e w'=>e = .returned (encR rts y)/\Ext w w'):
  PCok P G f ⟨[.h t1],rts,p,false⟩:=by
 refine⟨hfn,fun S0 w0 us x y hG hS ha hy=>?_⟩
 have ha:A2 (VR S0 []) [svOf t1 x] us:=ha
 cases ha with
 |cons q1 q2=>
  cases q2
  rw[ykA h1 q1]
  exact(h S0 w0 x y hG hS hy).mono fun e w' ⟨he,hx⟩=>⟨hx,_,he,ylC hr,fun h=>by cases h⟩
theorem pc2{t1 t2:Ty}{rts:List Ty}{p:den t1->den t2->Option (zcL rts)}(h1:scal t1=true)(h2:scal t2=true)(hr:rts.all scal=true)(hfn:IsFn P f)
  (h:∀S w x1 x2 y,GS G S->Sub S w->p x1 x2=some y->Calls P f #[encV t1 x1,encV t2 x2] w fun e w'=>e = .returned (encR rts y)/\Ext w w'):
  PCok P G f ⟨[.h t1,.h t2],rts,fun(x:den t1×den t2)=>p x.1 x.2,false⟩:=by
 refine⟨hfn,fun S0 w0 us (x:den t1×den t2) y hG hS ha hy=>?_⟩
 have ha:A2 (VR S0 []) [svOf t1 x.1,svOf t2 x.2] us:=ha
 cases ha with
 |cons q1 q2=>
  cases q2 with
  |cons q3 q4=>
   cases q4
   rw[ykA h1 q1,ykA h2 q3]
   exact(h S0 w0 x.1 x.2 y hG hS hy).mono fun e w' ⟨he,hx⟩=>⟨hx,_,he,ylC hr,fun h=>by cases h⟩
end
end Go.Proofs.YtopanhneegpgcaaGreatDoor.Am
namespace Go.Proofs.YtopanhneegpgcaaGreatDoor
open Go Go.RowKit
def decF:Nat->Nat->Bs
 |0,_=>[]
 |f+1,u=>bif Nat.blt u 10 then [UInt8.ofNat (48+u)]else decF f (u/10)++[UInt8.ofNat (48+u%10)]
theorem ykZ:∀(f u:Nat),u<10^f->0<f->decF f u=Lib.decDigits u
 |0,_,_,h=>absurd h (Nat.lt_irrefl 0)
 |f+1,u,h,_=>by
  rw[Lib.decDigits]
  unfold decF
  by_cases hu:u<10
  ·rw[show Nat.blt u 10=true by rw[zmI];simpa using hu,dif_pos hu];rfl
  ·rw[show Nat.blt u 10=false by rw[zmI];simpa using hu,dif_neg hu]
   have hf:0<f:=by
    rcases Nat.eq_zero_or_pos f with rfl|hf
    ·rw[Nat.zero_add,Nat.pow_one]at h;omega
    ·exact hf
   rw[ykZ f (u/10) (by rw[Nat.pow_succ]at h;omega) hf];rfl
def xfQ(n:Int):Bs:=bif decide (n<0)then 45::decF 20 n.natAbs else decF 20 n.toNat
def yrF(n:Int):Option Bs:=bif decide (-9223372036854775808<=n)&&decide (n<=9223372036854775807)then some (xfQ n)else none
theorem xfC{n:Int}(h0:-9223372036854775808<=n)(h1:n<=9223372036854775807):xfQ n=Lib.itoa n:=by
 unfold xfQ Lib.itoa
 by_cases hn:n<0
 ·rw[if_pos hn,decide_eq_true hn,cond_true,ykZ _ _ (by omega) (by omega)]
 ·rw[if_neg hn,decide_eq_false hn,cond_false,ykZ _ _ (by omega) (by omega)]
theorem GV.tab {S : Mem} {w : World} (h : GV S) (hS : Sub S w) : Lib.TabIs Tryz.prog w "internal/strconv.uint64pow10" .u64 Lib.pow10Tab := by
 obtain⟨t,fz,h⟩:=h.tb
 have hg : Tryz.prog.globalNamed "internal/strconv.uint64pow10" = some 3 := by kernel_rfl
 unfold Lib.TabIs World.var?
 rw[hg,Option.bind_some,hS _ _ h]
 rfl
theorem xjH{S:Mem}{w:World}(hS:Sub S w)(hG:GV S){x0:Int}{r:Bs}(hF:yrF x0=some r):
  Calls Tryz.prog 68 #[.int .i64 x0] w fun e w'=>e = .returned (str r)/\Ext w w':=by
 unfold yrF at hF
 obtain⟨h,hF⟩:=Am.zaG hF
 simp only[Bool.and_eq_true,decide_eq_true_eq]at h
 cases hF
 refine(Tryz.strconv_Itoa x0 h.1 h.2 w (hG.tab hS)).mono ?_
 rintro _ w' ⟨rfl,k,os,rfl⟩
 rw[xfC h.1 h.2]
 exact⟨rfl,⟨rfl,rfl,rfl,by show w.heap.size<=(w.heap++os).size;rw[Array.size_append];omega,fun j hj=>by show(w.heap++os)[j]? = _;rw[Array.getElem?_append_left hj]⟩⟩
def yeC(s cs:Bs):Option Bs:=bif decide (s.length<=9223372036854775807)&&decide (cs.length<4294967281)&&cs.all (fun b=>decide (b.toNat<128))then some (Lib.trimS s cs)else none
theorem xsI{S:Mem}{w:World}(_:Sub S w){x0 x1 r:Bs}(hF:yeC x0 x1=some r):
  Calls Tryz.prog 164 #[str x0,str x1] w fun e w'=>e = .returned (str r)/\Ext w w':=by
 unfold yeC at hF
 obtain⟨h,hF⟩:=Am.zaG hF
 simp only[Bool.and_eq_true,decide_eq_true_eq]at h
 cases hF
 exact Any.strings_Trim_laid Tryz.lays160 (by kernel_rfl) ⟨x0.toArray⟩ ⟨x1.toArray⟩ w (by rw[zjS];exact h.1.1) (by rw[zjS];exact h.1.2) (fun j b hj=>by
  have:=List.all_eq_true.1 h.2 b (List.mem_of_getElem? hj)
  simpa using this)
def cutP(s sep:Bs):Option (Bs×Bs×Bool):=bif decide (s.length<4294967281)then some (Lib.cut s sep)else none
theorem xuN{S:Mem}{w:World}(hS:Sub S w)(hG:GV S){x0 x1:Bs}{r:Bs×Bs×Bool}(hF:cutP x0 x1=some r):
  Calls Tryz.prog 59 #[str x0,str x1] w fun e w'=>e = .returned (.tuple #[str (r.1),str (r.2.1),.bool (r.2.2)])/\Ext w w':=by
 unfold cutP at hF
 obtain⟨h,hF⟩:=Am.zaG hF
 simp only[decide_eq_true_eq]at h
 cases hF
 obtain⟨m,hm⟩:=hG.cell hS
 refine(Tryz.strings_Cut ⟨x0.toArray⟩ ⟨x1.toArray⟩ m w (by rw[zjS];exact h) hm).mono ?_
 rintro _ w' ⟨rfl,n,rfl⟩
 exact⟨rfl,rfl,rfl,rfl,Nat.le_refl _,fun _ _=>rfl⟩
def yvW(s:Bs):Option (Int×Bool):=bif decide (s.length<=9223372036854775806)then(match Lib.atoiAll s with
 |.ok v=>some (v,false)
 |_=>none)else none
theorem xqW{S:Mem}{w:World}(_:Sub S w){x0:Bs}{r:Int×Bool}(hF:yvW x0=some r):
  r.2=false/\Calls Tryz.prog 165 #[str x0] w fun e w'=>e = .returned (.tuple #[.int .i64 r.1,.nilIface])/\Ext w w':=by
 unfold yvW at hF
 obtain⟨h,hF⟩:=Am.zaG hF
 simp only[decide_eq_true_eq]at h
 split at hF
 ·rename_i v hv
  cases hF
  refine⟨rfl,(Tryz.strconv_Atoi_ok ⟨x0.toArray⟩ (by rw[zjS];exact h) v hv w).mono ?_⟩
  rintro _ w' ⟨rfl,rfl|⟨t,rfl⟩⟩
  ·exact⟨rfl,Ext.refl _⟩
  ·exact⟨rfl,⟨rfl,rfl,rfl,by rw[Lib.bytesWorld_size];omega,fun j hj=>Lib.bytesWorld_at_old w _ _ j hj⟩⟩
 ·cases hF
section
variable {α β γ σ:Type}
theorem ykR(p:UInt8->Bool)(h:(List.range 256).all (fun n=>p (UInt8.ofNat n))=true)(b:UInt8):p b=true:=by
 have:=List.all_eq_true.1 h b.toNat (by have:=b.toNat_lt;simp only[List.mem_range];omega)
 simpa using this
theorem zaA(x:α)(f:α->Option β):(some x).bind f=f x:=rfl
theorem bind_ok{o:Option α}{a:α}{f:α->Option β}(h:o=some a):o.bind f=f a:=by rw[h];rfl
theorem zqB{x:Int}(h:-9223372036854775808<=x)(h2:x<=9223372036854775807):w64 x=x:=wr64 h (by omega)
theorem zfO{l:List α}{i:Nat}{j:Int}(hj:j=(i:Int))(h:i<l.length):idx l j=some l[i]:=by
 subst hj;rw[xlO];exact List.getElem?_eq_getElem h
theorem xrM{c:Bool}(h:c=true):chk c=some ():=by subst h;rfl
theorem zdU{p:Prop}[Decidable p]{a b:α}(h:p):(bif decide p then a else b)=a:=by simp[h]
theorem zdG{p:Prop}[Decidable p]{a b:α}(h:¬p):(bif decide p then a else b)=b:=by simp[h]
theorem ysF{body:σ->Option (σ⊕β)}(st:Nat->σ)(n:Nat)(hn:n<1099511627776)(b:β)(h:∀k,k<n->body (st k)=some (.inl (st (k+1))))(he:body (st n)=some (.inr b)):iter body (st 0)=some b:=by
 have key:∀j k,k<=n->n-k<j->zoW body j (st k)=some b:=by
  intro j
  induction j with
  |zero=>intro k _ h;omega
  |succ j ih=>
   intro k hk hj
   by_cases e:k=n
   ·subst e;exact zdA he
   ·rw[zcE (h k (by omega))];exact ih (k+1) (by omega) (by omega)
 exact key FU 0 (by omega) (by unfold FU;omega)
end
theorem zzA(u:Nat):Lib.decDigits u=if u<10 then [UInt8.ofNat (48+u)]else Lib.decDigits (u/10)++[UInt8.ofNat (48+u%10)]:=by
 rw[Lib.decDigits]
 by_cases h:u<10
 ·rw[dif_pos h,if_pos h]
 ·rw[dif_neg h,if_neg h]
theorem yoQ{d:Nat}(h:d<10):(UInt8.ofNat (48+d)).toNat=48+d:=by
 simp[UInt8.toNat_ofNat];omega
theorem ykD:∀(u:Nat),∀b∈Lib.decDigits u,48<=b.toNat/\b.toNat<=57:=by
 intro u
 induction u using Nat.strongRecOn with
 |_ u ih=>
  intro b hb
  rw[zzA]at hb
  by_cases h:u<10
  ·rw[if_pos h]at hb
   simp only[List.mem_singleton]at hb
   rw[hb,yoQ h];omega
  ·rw[if_neg h]at hb
   rcases List.mem_append.1 hb with hb|hb
   ·exact ih (u/10) (by omega) b hb
   ·simp only[List.mem_singleton]at hb
    rw[hb,yoQ (by omega)];omega
theorem yxI(u:Nat):Lib.decDigits u≠[]:=by
 rw[zzA]
 by_cases h:u<10<;>simp[h]
theorem yzN:∀(u:Nat),u≠0->∃b l,Lib.decDigits u=b::l/\b≠48:=by
 intro u
 induction u using Nat.strongRecOn with
 |_ u ih=>
  intro hu
  rw[zzA]
  by_cases h:u<10
  ·rw[if_pos h]
   refine⟨_,_,rfl,fun e=>?_⟩
   have:=congrArg UInt8.toNat e
   rw[yoQ h]at this
   have:48+u=48:=this
   omega
  ·rw[if_neg h]
   obtain⟨b,l,h1,h2⟩:=ih (u/10) (by omega) (by omega)
   exact⟨b,l++_,by rw[h1];rfl,h2⟩
theorem zzG:∀(k u:Nat),0<k->u<10^k->(Lib.decDigits u).length<=k
 |0,_,h,_=>absurd h (Nat.lt_irrefl 0)
 |k+1,u,_,h=>by
  rw[zzA]
  by_cases hu:u<10
  ·rw[if_pos hu];simp
  ·rw[if_neg hu]
   have hk:0<k:=by
    rcases Nat.eq_zero_or_pos k with rfl|hk
    ·rw[Nat.zero_add,Nat.pow_one]at h;omega
    ·exact hk
   have:=zzG k (u/10) hk (by rw[Nat.pow_succ]at h;omega)
   simp;omega
theorem yiN{b:UInt8}(hb:48<=b.toNat/\b.toNat<=57):∀(l:Bs) (acc v:Nat),Lib.parseUint10 acc l = .ok v->v<1844674407370955161->Lib.parseUint10 acc (l++[b]) = .ok (v*10+(b.toNat-48))
 |[],acc,v,h,hv=>by
  simp only[Lib.parseUint10]at h
  cases h
  simp only[List.nil_append,Lib.parseUint10]
  rw[if_pos hb,if_neg (by omega),if_neg (by omega)]
 |c::l,acc,v,h,hv=>by
  simp only[List.cons_append,Lib.parseUint10]at h ⊢
  split at h
  ·rename_i h1
   split at h
   ·cases h
   ·rename_i h2
    split at h
    ·cases h
    ·rename_i h3
     rw[if_pos h1,if_neg h2,if_neg h3]
     exact yiN hb l _ v h hv
  ·cases h
theorem xcE:∀(u:Nat),u<9223372036854775808->Lib.parseUint10 0 (Lib.decDigits u) = .ok u:=by
 intro u
 induction u using Nat.strongRecOn with
 |_ u ih=>
  intro hu
  rw[zzA]
  by_cases h:u<10
  ·rw[if_pos h]
   have e:=yoQ h
   simp only[Lib.parseUint10]
   rw[if_pos (by rw[e];omega),if_neg (by omega),if_neg (by rw[e];omega),e]
   congr 1;omega
  ·rw[if_neg h]
   have e:=yoQ (show u%10<10 by omega)
   rw[yiN (by rw[e];omega) _ _ _ (ih (u/10) (by omega) (by omega)) (by omega),e]
   congr 1;omega
theorem xhW(u:Nat)(hu:u<9223372036854775808):Lib.atoiAll (Lib.decDigits u) = .ok (u:Int):=by
 have hne:=yxI u
 cases hl:Lib.decDigits u with
 |nil=>exact absurd hl hne
 |cons c r=>
  have hc:=ykD u c (by rw[hl];exact List.mem_cons_self)
  have hp:=xcE u hu
  rw[hl]at hp
  unfold Lib.atoiAll
  simp only
  rw[if_neg (by omega)]
  unfold Lib.parseMag
  rw[if_neg (by simp),hp]
  simp only
  rw[if_neg (by omega),if_neg (by omega),if_neg (by omega)]
theorem xaS(u:Nat)(hu:u<1000000000000000):yvW (Lib.decDigits u)=some ((u:Int),false):=by
 have hl:=zzG 15 u (by decide) hu
 unfold yvW
 rw[decide_eq_true (show(Lib.decDigits u).length<=9223372036854775806 by omega),xhW u (by omega)]
 rfl
theorem yoI(u:Nat)(hu:u<9223372036854775808):yrF (u:Int)=some (Lib.decDigits u):=by
 unfold yrF xfQ
 rw[decide_eq_true (show(-9223372036854775808:Int)<=(u:Int) by omega),decide_eq_true (show(u:Int)<=9223372036854775807 by omega)]
 simp only[Bool.and_self,cond_true]
 rw[decide_eq_false (show ¬(u:Int)<0 by omega)]
 simp only[cond_false,Int.toNat_natCast]
 rw[ykZ 20 u (by omega) (by decide)]
abbrev tenL:Bs:=[48,49,50,51,52,53,54,55,56,57]
theorem xmD{b:UInt8}(h:48<=b.toNat/\b.toNat<=57):tenL.contains b=true:=by
 have e:b=UInt8.ofNat b.toNat:=by simp
 rw[e]
 rcases(by omega:b.toNat=48∨b.toNat=49∨b.toNat=50∨b.toNat=51∨b.toNat=52∨b.toNat=53∨b.toNat=54∨b.toNat=55∨b.toNat=56∨b.toNat=57)with h|h|h|h|h|h|h|h|h|h<;>rw[h]<;>decide
theorem yhH{p:UInt8->Bool}:∀{l:Bs},(∀b∈l,p b=true)->l.dropWhile p=[]
 |[],_=>rfl
 |b::l,h=>by
  rw[List.dropWhile_cons,if_pos (h b List.mem_cons_self)]
  exact yhH fun b hb=>h b (List.mem_cons_of_mem _ hb)
theorem xeG{l:Bs}(h:∀b∈l,48<=b.toNat/\b.toNat<=57):Lib.trimS l tenL=[]:=by
 have h2:l.reverse.dropWhile (tenL.contains ·)=[]:=yhH fun b hb=>xmD (h b (List.mem_reverse.1 hb))
 unfold Lib.trimS Lib.trimRightS
 rw[h2];rfl
theorem yxQ(u:Nat)(hu:u<1000000000000000):yeC (Lib.decDigits u) tenL=some []:=by
 have hl:=zzG 15 u (by decide) hu
 unfold yeC
 rw[decide_eq_true (show(Lib.decDigits u).length<=9223372036854775807 by omega),decide_eq_true (show tenL.length<4294967281 by decide),show tenL.all (fun b=>decide (b.toNat<128))=true by decide]
 simp only[Bool.and_self,cond_true]
 rw[xeG (ykD u)]
theorem yjG(b:UInt8)(l sub:Bs):Lib.index (b::l) sub=if sub.isPrefixOf (b::l)=true then 0 else(if Lib.index l sub = -1 then -1 else Lib.index l sub+1):=by
 rw[Lib.index]
 split<;>simp_all
theorem yiH{m:UInt8}{r:Bs}:∀{d:Bs},m∉d->Lib.index (d++m::r) [m]=(d.length:Int)
 |[],_=>by
  rw[List.nil_append,yjG,if_pos (by simp[List.isPrefixOf])];rfl
 |b::d,h=>by
  have hb:b≠m:=fun e=>h (by rw[e];exact List.mem_cons_self)
  have ih:=yiH (r:=r) (d:=d) fun hm=>h (List.mem_cons_of_mem _ hm)
  rw[List.cons_append,yjG,if_neg (by simp[List.isPrefixOf];exact fun e=>hb e.symm),ih,if_neg (by omega)]
  simp
theorem yuA{m:UInt8}{d r:Bs}(h:m∉d):Lib.cut (d++m::r) [m]=(d,r,true):=by
 unfold Lib.cut
 rw[yiH h,if_pos (by omega)]
 simp[List.drop_append]
theorem yxA(u:Nat):(58:UInt8)∉Lib.decDigits u:=fun h=>by
 have:=ykD u _ h
 have e:(58:UInt8).toNat=58:=rfl
 omega
theorem xgF(u:Nat)(r:Bs)(h:(Lib.decDigits u++58::r).length<4294967281):cutP (Lib.decDigits u++58::r) [58]=some (Lib.decDigits u,r,true):=by
 unfold cutP
 rw[decide_eq_true h,yuA (yxA u)];rfl
def zeJ:List Bs->Bs
 |[]=>[]
 |t::ts=>Lib.decDigits t.length++58::(t++zeJ ts)
def digB(b:UInt8):Bool:=decide (48<=b.toNat)&&decide (b.toNat<=57)
theorem yiS{p:UInt8->Bool}:∀{l:Bs},l.dropWhile p=[]->∀b∈l,p b=true
 |[],_,b,hb=>by cases hb
 |c::l,h,b,hb=>by
  rw[List.dropWhile_cons]at h
  split at h
  ·rename_i hc
   rcases List.mem_cons.1 hb with rfl|hb
   ·exact hc
   ·exact yiS h b hb
  ·cases h
theorem yhL{p:UInt8->Bool}:∀{l:Bs} {b:UInt8},b∈l->p b=false->b∈l.dropWhile p
 |c::l,b,hb,hp=>by
  rw[List.dropWhile_cons]
  split
  ·rename_i hc
   rcases List.mem_cons.1 hb with rfl|hb
   ·rw[hp]at hc;cases hc
   ·exact yhL hb hp
  ·exact hb
theorem ynR{l cs:Bs}:Lib.trimS l cs=[]↔∀b∈l,cs.contains b=true:=by
 unfold Lib.trimS Lib.trimLeftS Lib.trimRightS
 constructor
 ·intro h b hb
  cases hc:cs.contains b with
  |true=>rfl
  |false=>
   have h1:=yhL (List.mem_reverse.2 hb) hc
   have h2:=yiS h b (List.mem_reverse.2 h1)
   rw[hc]at h2;cases h2
 ·intro h
  rw[yhH (l:=l.reverse) fun b hb=>h b (List.mem_reverse.1 hb)]
  rfl
section
attribute [local irreducible] wpList wpT Code.wp Calls Code.rounds
variable {S:Mem}{w:World}
theorem bu1:Tryz.prog.underlying 101=some (.pointer 104):=by kernel_rfl
theorem bu2:Tryz.prog.underlying 234=some .unsafePointer:=by kernel_rfl
theorem bi1:(Tryz.prog.info? 104).map (·.size)=some 2:=by kernel_rfl
theorem bl1:liesAt Tryz.prog Tryz.prog.depth 104 (2/Tryz.prog.cellsOf 104) 0 104 1=true:=by kernel_rfl
theorem bf0:xcP Tryz.prog 104 0 0:=fun _ _ _=>by kernel_rfl
theorem bf1:xcP Tryz.prog 104 1 1:=fun _ _ _=>by kernel_rfl
theorem bto:TOne Tryz.prog 101:=⟨fun _=>by kernel_rfl,fun _=>by kernel_rfl⟩
theorem bto2:TOne Tryz.prog 102:=⟨fun _=>by kernel_rfl,fun _=>by kernel_rfl⟩
theorem btz:TSz Tryz.prog 101 1:=fun _=>by kernel_rfl
theorem xsO(x:Value)(w:World):(callFunc 241 [x].toArray).run Tryz.prog w = .ok (.value x) w:=by
 have h:=run_callFunc_extern (P:=Tryz.prog) (w:=w) (args:=#[x]) Tryz.func241 (by kernel_rfl) (by kernel_rfl) (by kernel_rfl) (e:=Extern.AbiNoEscape.same) (by kernel_rfl)
 show(callFunc 241 #[x]).run Tryz.prog w=_
 rw[h,Lib.run_noEscape];rfl
def zlC(x0:Bs):Option Bs:=some x0
section
variable {P:Program}{w:World}{B:Bas}{S:Mem}{L:List Res}{e:Operand->Value}{dst:Option Tmp}{g:Option (Nat×Bool)}{ty:TypeId}{pos:String}{aft:Array Edge}{x y:Operand}{T T1 T2 T':TypeId}{a:Addr}
theorem xpJ(hu:P.underlying T=some (.pointer T1))(hx:e x = .pointer none)(hy:e y = .pointer none):(execOp e ⟨dst,.binOp .eql T x y T',ty,pos,aft,g⟩).run P w = .ok (.value (.bool true)) w:=by
 have h:(Op.equal T (.pointer none) (.pointer none)).run P w = .ok true w:=by
  have h:∀d,(Op.equalIn (d+1) T (.pointer none) (.pointer none)).run P w = .ok true w:=fun d=>by simp[Op.equalIn,Go.underlying,hu]
  exact h 9999
 simp[execOp,eqGuard,binOp,hx,hy,h]
theorem xqA(hu:P.underlying T=some (.pointer T1))(hx:e x = .pointer (some a))(hy:e y = .pointer none):(execOp e ⟨dst,.binOp .eql T x y T',ty,pos,aft,g⟩).run P w = .ok (.value (.bool false)) w:=by
 have h:(Op.equal T (.pointer (some a)) (.pointer none)).run P w = .ok false w:=by
  have h:∀d,(Op.equalIn (d+1) T (.pointer (some a)) (.pointer none)).run P w = .ok false w:=fun d=>by simp[Op.equalIn,Go.underlying,hu]
  exact h 9999
 simp[execOp,eqGuard,binOp,hx,hy,h]
theorem xpN{j:TypeInfo}(hu:P.underlying T=some (.pointer T1))(hj:P.info? T1=some j)(hx:e x = .pointer (some a))(hy:e y = .pointer (some a)):(execOp e ⟨dst,.binOp .neq T x y T',ty,pos,aft,g⟩).run P w = .ok (.value (.bool false)) w:=by
 have h:=Lib.run_neq_ptr_same (P:=P) w a hu hj
 simp[execOp,eqGuard,hx,hy,h]
end
theorem yaK{b0_:Nat}{x0:Bs}{pv1:Value}{pcs1 prs1:LV}{pa1:Value}(H:HS ⟨S,zbF [.blk b0_ ([pa1]++([pv1])) 104,.osl (pv1) (x0).length 1 pcs1 prs1 5],w⟩ S w [.blk b0_ ([pa1]++([pv1])) 104,.osl (pv1) (x0).length 1 pcs1 prs1 5])
  (pg1:RL S pcs1 x0) (pg2:BA b0_ pa1) {r:Bs} (hF:zlC x0=some r):
  Calls Tryz.prog 167 #[.pointer (some ⟨b0_,0,none⟩)] w fun e w'=>∃(S2:Mem) (pv2:Value) (pcs2 prs2:LV) (pa2:Value),e = .returned (.tuple #[])/\HS ⟨S,zbF [.blk b0_ ([pa1]++([pv1])) 104,.osl (pv1) (x0).length 1 pcs1 prs1 5],w⟩ S2 w' [.blk b0_ ([pa2]++([pv2])) 104,.osl (pv2) (r).length 1 pcs2 prs2 5]/\RL S2 pcs2 r/\BA b0_ pa2:=by
 obtain rfl:=osi hF
 obtain⟨j,hj,hjs⟩:=Option.map_eq_some_iff.1 bi1
 have hblk:w.heap[b0_]? = some (.cells ([pa1]++([pv1])).toArray 104 (0,0)):=H.own 0 _ rfl
 have hsh:w.shape? (⟨b0_,0,none⟩:Addr).block=some (104,2):=by simp[World.shape?,hblk]
 refine enter (n:=20) Tryz.func167 rfl rfl rfl ?_
 rcases pg2 with rfl|rfl
 ·refine wp_seq_k ?_;intro K1 hK1
  refine wp_region_lit ?_
  refine zeV (zpI (v:=.pointer (some ⟨b0_,0,none⟩)) rfl) ?_
  refine zeV (zoZ rfl) ?_
  refine zeV (zqT bf0 rfl) ?_
  refine zeV (ztR (v:=.pointer none) bto H rfl (k:=0) rfl rfl) ?_
  refine zeV (xpJ bu1 rfl rfl) ?_
  refine wpList_nil ?_
  refine zuH ?_;refine hK1 _ _ ?_
  refine xsU rfl rfl ?_
  refine wp_region_lit ?_
  refine zeV (zpI (v:=.pointer (some ⟨b0_,0,none⟩)) rfl) ?_
  refine zeV (zpI (v:=.pointer (some ⟨b0_,0,none⟩)) rfl) ?_
  refine zeV (c:=.pointer (some ⟨b0_,0,none⟩)) (by
   have h:=Lib.run_to_unsafe (P:=Tryz.prog) w ⟨b0_,0,none⟩ bu1 bu2 hj (by rw[hjs];decide) hsh (Nat.zero_lt_succ 1)
   simp only[execOp]
   exact(by rw[Sem.run_bind];erw [h];rfl)) ?_
  refine xnF (l:=[.pointer (some ⟨b0_,0,none⟩)]) rfl (xsO _ _) ?_
  refine zeV (c:=.pointer (some ⟨b0_,0,none⟩)) (by
   have h:=Lib.run_from_unsafe (P:=Tryz.prog) w ⟨b0_,0,none⟩ bu2 bu1 hj hsh bl1
   simp only[execOp]
   exact(by rw[Sem.run_bind];erw [h];rfl)) ?_
  refine zeV (zoZ rfl) ?_
  refine zeV (zqT bf0 rfl) ?_
  refine xtE (ykN (k:=0) (v:=.pointer (some ⟨b0_,0,none⟩)) (l:=[.pointer (some ⟨b0_,0,none⟩)]) btz H rfl rfl rfl (cells_one rfl) rfl (fun u hu=>List.all_eq_true.1 (rfl:([Value.pointer (some ⟨b0_,0,none⟩)]).all (·.oneCell')=true) u hu) rfl) ?_;clear H;intro w2 H
  refine wpList_nil ?_
  refine e_00 rfl ?_
  exact⟨S,pv1,pcs1,prs1,.pointer (some ⟨b0_,0,none⟩),rfl,H,pg1,.inr rfl⟩
 ·refine wp_seq_k ?_;intro K1 hK1
  refine wp_region_lit ?_
  refine zeV (zpI (v:=.pointer (some ⟨b0_,0,none⟩)) rfl) ?_
  refine zeV (zoZ rfl) ?_
  refine zeV (zqT bf0 rfl) ?_
  refine zeV (ztR (v:=.pointer (some ⟨b0_,0,none⟩)) bto H rfl (k:=0) rfl rfl) ?_
  refine zeV (xqA bu1 rfl rfl) ?_
  refine wpList_nil ?_
  refine zuH ?_;refine hK1 _ _ ?_
  refine yzM rfl rfl ?_
  refine wp_seq_k ?_;intro K2 hK2
  refine wp_region_lit ?_
  refine zeV (zpI (v:=.pointer (some ⟨b0_,0,none⟩)) rfl) ?_
  refine zeV (zoZ rfl) ?_
  refine zeV (zqT bf0 rfl) ?_
  refine zeV (ztR (v:=.pointer (some ⟨b0_,0,none⟩)) bto H rfl (k:=0) rfl rfl) ?_
  refine zeV (zpI (v:=.pointer (some ⟨b0_,0,none⟩)) rfl) ?_
  refine zeV (xpN bu1 hj rfl rfl) ?_
  refine wpList_nil ?_
  refine zuH ?_;refine hK2 _ _ ?_
  refine yzM rfl rfl ?_
  refine wp_skip ?_
  refine e_00 rfl ?_
  exact⟨S,pv1,pcs1,prs1,.pointer (some ⟨b0_,0,none⟩),rfl,H,pg1,.inr rfl⟩
theorem bus:Tryz.prog.underlying 102=some (.slice 5):=by kernel_rfl
theorem bup:Tryz.prog.underlying 179=some (.pointer 5):=by kernel_rfl
theorem buc:Tryz.prog.cellsOf 5=1:=by kernel_rfl
section
variable {P:Program}{w:World}{e:Operand->Value}{dst:Option Tmp}{g:Option (Nat×Bool)}{ty:TypeId}{pos:String}{aft:Array Edge}{x y:Operand}{T T1:TypeId}
theorem xlQ{r:Value}{v:Value}{w':World}(hx:e x=v)(h:(Builtin.unsafeSliceData_ #[T] ty #[v]).run P w = .ok r w'):(execOp e ⟨dst,.call ⟨.builtin .unsafeSliceData,#[x],#[T]⟩,ty,pos,aft,g⟩).run P w = .ok (.value r) w':=by
 simp[execOp,resolve,invoke,builtin,hx,h]
theorem xiA{r:Value}{v u:Value}{w':World}(hx:e x=v)(hy:e y=u)(h:(Builtin.unsafeString_ #[T,T1] ty #[v,u]).run P w = .ok r w'):(execOp e ⟨dst,.call ⟨.builtin .unsafeString,#[x,y],#[T,T1]⟩,ty,pos,aft,g⟩).run P w = .ok (.value r) w':=by
 simp[execOp,resolve,invoke,builtin,hx,hy,h]
theorem xkC:∀{L:List Res} {k:Nat} {x:Res},rmR (stR L k x) k=rmR L k
 |[],_,_=>rfl
 |_::_,0,_=>rfl
 |y::l,k+1,x=>by simp only[stR,rmR,xkC (L:=l) (k:=k)]
end
theorem ydO{B:Bas}{S:Mem}{w:World}{L:List Res}{k1 k2 b:Nat}{a v:Value}{cs rs:LV}{xs:Bs}(H:HS B S w L)(h1:lkR L k1=some (.blk b ([a]++([v])) 104))(h2:lkR L k2=some (.osl v xs.length 1 cs rs 5))(h0:RL S cs xs)(hl:xs.length<=9223372036854775807):
  Calls Tryz.prog 69 #[.pointer (some ⟨b,0,none⟩)] w fun e w'=>e = .returned (str xs)/\HS B S w' (rmR L k2):=by
 have hown:=H.own k2 _ h2
 refine enter (n:=14) Tryz.func69 rfl rfl rfl ?_
 rcases hown with⟨rfl,hn,hcs,hrs⟩|⟨gb,c,fz,rfl,hnc,hlen,hcap,hblk,hfz⟩
 ·obtain rfl:xs=[]:=List.eq_nil_of_length_eq_zero hn
  refine wp_seq_k ?_;intro K1 hK1
  refine wp_region_lit ?_
  refine zeV (zrH (v:=str ([]:Bs)) rfl) ?_
  refine wpList_nil ?_
  refine zuH ?_;refine hK1 _ _ ?_
  refine wp_seq_k ?_;intro K2 hK2
  apply zvH 10 (kinds []) rfl rfl (by kernel_rfl);intro vs
  simp only[tkS,tkZ,drS,drZ]
  replace H:=H.drew
  refine zkY (fun w hx=>zpI (v:=.pointer (some ⟨b,0,none⟩)) rfl) rfl rfl ?_
  refine zkY (fun w hx=>zoZ rfl) rfl rfl ?_
  refine zkY (fun w hx=>zqT bf1 rfl) rfl rfl ?_
  refine zkY (fun w hx=>ztR (v:=.slice none 0 0) bto2 (H.ext hx) rfl h1 rfl) rfl rfl ?_
  refine zkY (fun w hx=>xlQ (r:=.pointer none) rfl (Lib.run_unsafeSliceData_nil _ _ _ _ _)) rfl rfl ?_
  refine zkY (fun w hx=>zpI (v:=.pointer (some ⟨b,0,none⟩)) rfl) rfl rfl ?_
  refine zkY (fun w hx=>zoZ rfl) rfl rfl ?_
  refine zkY (fun w hx=>zqT bf1 rfl) rfl rfl ?_
  refine zkY (fun w hx=>ztR (v:=.slice none 0 0) bto2 (H.ext hx) rfl h1 rfl) rfl rfl ?_
  refine zkY (fun w hx=>yxF bus rfl (H.ext hx) h2 rfl) rfl rfl ?_
  refine xnU (fun w2 hx hF hA=>?_)
  replace H:=H.ext hx;clear hx hF hA
  refine zeV (c:=str ([]:Bs)) (xiA rfl rfl (Lib.run_unsafeString_none _ _ _ _ _)) ?_
  replace H:=H.rm k2
  refine zeV (zrH (v:=str ([]:Bs)) rfl) ?_
  refine wpList_nil ?_;refine ykO ?_
  refine zuH ?_;refine hK2 _ _ ?_
  refine wp_ret ?_
  refine e_1 rfl (ypW (v:=str ([]:Bs)) rfl) ?_
  exact⟨rfl,H⟩
 ·by_cases hc:c=0
  ·subst hc
   obtain rfl:xs=[]:=List.eq_nil_of_length_eq_zero (by omega)
   refine wp_seq_k ?_;intro K1 hK1
   refine wp_region_lit ?_
   refine zeV (zrH (v:=str ([]:Bs)) rfl) ?_
   refine wpList_nil ?_
   refine zuH ?_;refine hK1 _ _ ?_
   refine wp_seq_k ?_;intro K2 hK2
   apply zvH 10 (kinds [(4,.inr (fun v _=>∃a,v = .pointer (some a)))]) rfl rfl (by kernel_rfl);intro vs
   simp only[tkS,tkZ,drS,drZ]
   replace H:=H.drew
   refine zkY (fun w hx=>zpI (v:=.pointer (some ⟨b,0,none⟩)) rfl) rfl rfl ?_
   refine zkY (fun w hx=>zoZ rfl) rfl rfl ?_
   refine zkY (fun w hx=>zqT bf1 rfl) rfl rfl ?_
   refine zkY (fun w hx=>ztR (v:=sl gb 0 0 0) bto2 (H.ext hx) rfl h1 rfl) rfl rfl ?_
   refine xmX (φ:=fun v _=>∃a,v = .pointer (some a)) rfl rfl (fun _ _ _ h _=>h) rfl (fun h=>by cases h) (fun w hx hF R hR=>by
    have hsh:w.shape? (⟨gb,0,none⟩:Addr).block=some (5,(cs++rs).toArray.size):=by
     have hb2:w.heap[gb]? = some (.cells (cs++rs).toArray 5 fz):=by rw[hx.block gb (lt_of_heap hblk)];exact hblk
     simp[World.shape?,hb2]
    have hrun:=Lib.run_unsafeSliceData_zero (P:=Tryz.prog) w #[102] 179 5 bup ⟨gb,0,none⟩ 0 _ hsh
    rw[zmL,xlQ rfl hrun,ylW]
    exact hR (.pointer (some ⟨w.heap.size,0,none⟩)) (w.alloc (.view ⟨gb,0,none⟩ 5)) (Ext.alloc w _) ⟨_,rfl⟩ (fun h=>by cases h)) ?_
   rw[ydH]
   refine zkY (fun w hx=>zpI (v:=.pointer (some ⟨b,0,none⟩)) rfl) rfl rfl ?_
   refine zkY (fun w hx=>zoZ rfl) rfl rfl ?_
   refine zkY (fun w hx=>zqT bf1 rfl) rfl rfl ?_
   refine zkY (fun w hx=>ztR (v:=sl gb 0 0 0) bto2 (H.ext hx) rfl h1 rfl) rfl rfl ?_
   refine zkY (fun w hx=>yxF bus rfl (H.ext hx) h2 rfl) rfl rfl ?_
   refine xnU (fun w2 hx hF hA=>?_)
   obtain⟨ad,had⟩:=xhO hF 4 rfl rfl
   replace H:=H.ext hx;clear hx hF hA
   refine zeV (c:=str ([]:Bs)) (xiA (by exact had) rfl (Lib.run_unsafeString_none _ _ _ _ _)) ?_
   replace H:=H.rm k2
   refine zeV (zrH (v:=str ([]:Bs)) rfl) ?_
   refine wpList_nil ?_;refine ykO ?_
   refine zuH ?_;refine hK2 _ _ ?_
   refine wp_ret ?_
   refine e_1 rfl (ypW (v:=str ([]:Bs)) rfl) ?_
   exact⟨rfl,H⟩
  ·skip
   refine wp_seq_k ?_;intro K1 hK1
   refine wp_region_lit ?_
   refine zeV (zrH (v:=str ([]:Bs)) rfl) ?_
   refine wpList_nil ?_
   refine zuH ?_;refine hK1 _ _ ?_
   refine wp_seq_k ?_;intro K2 hK2
   apply zvH 10 (kinds []) rfl rfl (by kernel_rfl);intro vs
   simp only[tkS,tkZ,drS,drZ]
   replace H:=H.drew
   refine zkY (fun w hx=>zpI (v:=.pointer (some ⟨b,0,none⟩)) rfl) rfl rfl ?_
   refine zkY (fun w hx=>zoZ rfl) rfl rfl ?_
   refine zkY (fun w hx=>zqT bf1 rfl) rfl rfl ?_
   refine zkY (fun w hx=>ztR (v:=sl gb 0 xs.length c) bto2 (H.ext hx) rfl h1 rfl) rfl rfl ?_
   refine zkY (fun w hx=>xlQ (r:=.pointer (some ⟨gb,0,none⟩)) rfl (Lib.run_unsafeSliceData_row _ _ _ _ _ _ hc)) rfl rfl ?_
   refine zkY (fun w hx=>zpI (v:=.pointer (some ⟨b,0,none⟩)) rfl) rfl rfl ?_
   refine zkY (fun w hx=>zoZ rfl) rfl rfl ?_
   refine zkY (fun w hx=>zqT bf1 rfl) rfl rfl ?_
   refine zkY (fun w hx=>ztR (v:=sl gb 0 xs.length c) bto2 (H.ext hx) rfl h1 rfl) rfl rfl ?_
   refine zkY (fun w hx=>yxF bus rfl (H.ext hx) h2 rfl) rfl rfl ?_
   refine xnU (fun w2 hx hF hA=>?_)
   have hb2:w2.heap[gb]? = some (.cells (cs++rs).toArray 5 fz):=by rw[hx.block gb (lt_of_heap hblk)];exact hblk
   replace H:=H.ext hx;clear hx hF hA
   refine xvE (c:=str xs) (φ:=fun w'=>HS B S w' (rmR L k2)) ?_ ?_
   ·by_cases hx0:xs=[]
    ·subst hx0
     exact⟨w2,xiA rfl rfl (Lib.run_unsafeString_none _ _ _ _ _),H.rm k2⟩
    ·have hsh:w2.shape? gb=some (5,(cs++rs).toArray.size):=by simp[World.shape?,hb2]
     have hcs:=RL.is_u8s h0
     have hxl:xs.length<=(cs++rs).length:=by rw[List.length_append,hlen];omega
     have hrun:=Lib.run_unsafeString_row (P:=Tryz.prog) w2 179 3 9 5 bup buc gb _ hsh xs hx0 (by simpa using hxl) hl (fun j x hj=>by
      rw[zcI,zdK hb2,Nat.zero_add,List.getElem?_append_left (by have:=(List.getElem?_eq_some_iff.1 hj).1;omega),hcs]
      exact xkP hj)
     refine⟨_,xiA rfl rfl hrun,?_⟩
     have H2:=H.upd (w':=w2.freeze ⟨gb,0,none⟩ xs.length) (r':=.osl (.slice none 0 0) 0 1 [] [] 5) h2 (by unfold World.freeze;split<;>simp) (by unfold World.freeze;split<;>rfl) (by unfold World.freeze;split<;>rfl) (by unfold World.freeze;split<;>rfl) (fun i hi hne=>by
      have hig:gb≠i:=fun e=>hne (by rw[e];rfl)
      unfold World.freeze;split
      ·rfl
      ·simp[Array.getElem?_modify,hig]) (.inl ⟨rfl,rfl,rfl,rfl⟩) (fun b hb=>by cases hb)
     have H3:=H2.rm k2
     rw[xkC]at H3
     exact H3
   clear H;intro w3 H
   refine zeV (zrH (v:=str xs) rfl) ?_
   refine wpList_nil ?_;refine ykO ?_
   refine zuH ?_;refine hK2 _ _ ?_
   refine wp_ret ?_
   refine e_1 rfl (ypW (v:=str xs) rfl) ?_
   exact⟨rfl,H⟩
theorem to9:TOne Tryz.prog 9:=⟨fun _=>by kernel_rfl,fun _=>by kernel_rfl⟩
theorem xtS:TOne Tryz.prog 102:=⟨fun _=>by kernel_rfl,fun _=>by kernel_rfl⟩
theorem xtN:ypV Tryz.prog 104 (.agg #[.pointer none,.slice none 0 0]):=fun _=>by kernel_rfl
theorem u9:Tryz.prog.underlying 9=some .string:=by kernel_rfl
theorem u22:Tryz.prog.underlying 22=some (.slice 9):=by kernel_rfl
theorem is67:IsFn Tryz.prog 67:=isFn Tryz.func67 (by kernel_rfl) (by kernel_rfl)
theorem is68:IsFn Tryz.prog 68:=isFn Tryz.func68 (by kernel_rfl) (by kernel_rfl)
theorem is69:IsFn Tryz.prog 69:=isFn Tryz.func69 (by kernel_rfl) (by kernel_rfl)
theorem xvB:IsFn Tryz.prog 167:=isFn Tryz.func167 (by kernel_rfl) (by kernel_rfl)
theorem yzD:xcP Tryz.prog 104 1 1:=fun _ _ _=>by kernel_rfl
theorem xuQ:TSn Tryz.prog 102 5 (.int .u8 0) [.int .u8 0] 1 1:=TSn.mk' (by kernel_rfl) (by kernel_rfl) rfl rfl rfl rfl
theorem tsz9:TSz Tryz.prog 9 1:=fun _=>by kernel_rfl
theorem xrF:TSz Tryz.prog 102 1:=fun _=>by kernel_rfl
def zfY(x0:Bs)(x1:Bs):Option (Int×Bs):=
 Option.bind (zlC x0) fun y1=>Option.bind (app y1 x1) fun y2=>some ((((x1).length:Int),y2))
theorem zxN{b0_:Nat}{x0:Bs}{pv1:Value}{pcs1 prs1:LV}{pa1:Value}(H:HS ⟨S,zbF [.blk b0_ (([pa1]++([pv1]))) 104,.osl (pv1) (x0).length 1 pcs1 prs1 5],w⟩ S w [.blk b0_ (([pa1]++([pv1]))) 104,.osl (pv1) (x0).length 1 pcs1 prs1 5])(pg1:RL S pcs1 x0)(pg2:BA b0_ pa1){x1:Bs}{r:Int×Bs}(hF:zfY x0 x1=some r):
  Calls Tryz.prog 67 #[.pointer (some ⟨b0_,0,none⟩),str (x1)] w fun e w'=>∃(S2:Mem) (pv4:Value) (pcs4 prs4:LV) (pa4:Value),e = .returned (.tuple #[.int .i64 (r.1),.nilIface])/\HS ⟨S,zbF [.blk b0_ (([pa1]++([pv1]))) 104,.osl (pv1) (x0).length 1 pcs1 prs1 5],w⟩ S2 w' [.blk b0_ (([pa4]++([pv4]))) 104,.osl (pv4) (r.2).length 1 pcs4 prs4 5]/\RL S2 pcs4 r.2/\BA b0_ pa4:=by
 refine enter (n:=19) Tryz.func67 rfl rfl rfl ?_
 unfold zfY at hF
 refine sr ?_;intro K1 hK1
 refine p_as (v:=.int .i64 (0)) rfl ?_
 refine p_as (v:=.nilIface) rfl ?_
 refine xk hK1 ?_;clear hK1
 refine sr ?_;intro K2 hK2
 refine p_mv (v:=.pointer (some ⟨b0_,0,none⟩)) rfl ?_
 obtain⟨y1,e1,hF⟩:=bnd hF
 refine ysI (l:=[.pointer (some ⟨b0_,0,none⟩)]) xvB rfl ?_
 refine(yaK (H.hand [0,1] rfl) pg1 pg2 e1).mono ?_;rintro _ w1 ⟨S1,pv2,pcs2,prs2,pa2,rfl,H2,pg3,pg4⟩
 obtain⟨H1,hle1⟩:=H.frame [0,1] [] rfl H2;clear H H2;have H:=H1;clear H1
 replace H:HS ⟨S,zbF [.blk b0_ (([pa1]++([pv1]))) 104,.osl (pv1) (x0).length 1 pcs1 prs1 5],w⟩ S1 w1 [.blk b0_ (([pa2]++([pv2]))) 104,.osl (pv2) (y1).length 1 pcs2 prs2 5]:=H
 refine xk hK2 ?_;clear hK2
 refine sr ?_;intro K3 hK3
 refine p_mv (v:=.pointer (some ⟨b0_,0,none⟩)) rfl ?_
 refine p_mv (v:=.pointer (some ⟨b0_,0,none⟩)) rfl ?_
 refine zeV (zoZ rfl) ?_
 refine zeV (zqT yzD rfl) ?_
 refine zeV (ztR (v:=pv2) xtS H rfl (k:=0) rfl rfl) ?_
 refine p_mv (v:=str (x1)) rfl ?_
 obtain⟨y2,e2,hF⟩:=bnd hF
 refine xuK (xbN (k:=1) (l:=x1) xuQ u9 H rfl rfl pg3 rfl e2) ?_;clear H;rintro w2 v1 ⟨cs1,rs1,H,g1⟩
 replace H:HS ⟨S,zbF [.blk b0_ (([pa1]++([pv1]))) 104,.osl (pv1) (x0).length 1 pcs1 prs1 5],w⟩ S1 w2 [.blk b0_ (([pa2]++([pv2]))) 104,.osl (v1) (y2).length 1 cs1 rs1 5]:=H
 refine zeV (zoZ rfl) ?_
 refine zeV (zqT yzD rfl) ?_
 refine xtE (ykN (k:=0) (v:=v1) (l:=[v1]) xrF H rfl rfl rfl (cells_one (HS.ownOne H (k:=1) rfl)) rfl (fun u hu=>by rw[List.mem_singleton]at hu;rw[hu];exact HS.ownOne H (k:=1) rfl) rfl) ?_;clear H;intro w3 H
 replace H:HS ⟨S,zbF [.blk b0_ (([pa1]++([pv1]))) 104,.osl (pv1) (x0).length 1 pcs1 prs1 5],w⟩ S1 w3 [.blk b0_ (([pa2]++([v1]))) 104,.osl (v1) (y2).length 1 cs1 rs1 5]:=H
 refine xk hK3 ?_;clear hK3
 refine sr ?_;intro K4 hK4
 refine p_mv (v:=str (x1)) rfl ?_
 refine zeV (xdR (N:=(x1).length) u9 rfl rfl) ?_
 refine p_as (v:=.int .i64 (((x1).length:Int))) rfl ?_
 refine p_as (v:=.nilIface) rfl ?_
 refine xk hK4 ?_;clear hK4
 refine wp_ret ?_
 obtain rfl:=osi hF
 refine e_2 rfl (ypW (v:=.int .i64 (((x1).length:Int))) rfl) (ypW (v:=.nilIface) rfl) ?_
 replace H:HS ⟨S,zbF [.blk b0_ (([pa1]++([pv1]))) 104,.osl (pv1) (x0).length 1 pcs1 prs1 5],w⟩ S1 w3 [.blk b0_ (([pa2]++([v1]))) 104,.osl (v1) (y2).length 1 cs1 rs1 5]:=H
 exact⟨_,_,_,_,_,rfl,H,g1,pg4⟩
def zhX(x0:List Bs)(s1:Int×Bs):Option ((Int×Bs)⊕(Bs)):=
 bif decide (s1.1<((x0).length:Int))then(Option.bind (idx x0 s1.1) fun y1=>Option.bind (yrF ((y1).length:Int)) fun y2=>Option.bind (app y2 ([58]:Bs)) fun y3=>Option.bind (app y3 y1) fun y4=>Option.bind (zfY s1.2 y4) fun y5=>some (.inl (((w64 (s1.1+1)),y5.2))))else(some (.inr (s1.2)))
def zjT(x0:List Bs):Option (Bs):=
 Option.bind (Option.bind (iter (zhX x0) ((0,([]:Bs)))) (fun e=>some (e))) (fun t1=>Option.bind (chk (decide ((t1).length<=68719476736))) fun _y6=>some (t1))
theorem ykY(hS:Sub S w)(hG:GV S){v0_:Value}{x0:List Bs}(h0_:RdS S v0_ x0){r:Bs}(hF:zjT x0=some r):
  Calls Tryz.prog 22 #[v0_] w fun e w'=>e = .returned (str (r))/\Ext w w':=by
 refine enter (n:=21) Tryz.func22 rfl rfl rfl ?_
 have H:=HS.start hS
 unfold zjT at hF
 refine sr ?_;intro K1 hK1
 refine p_as (v:=str (([]:Bs))) rfl ?_
 refine xk hK1 ?_;clear hK1
 refine sr ?_;intro K2 hK2
 refine xuZ (ypS (l:=([Value.pointer none]++([Value.slice none 0 0]))) H xtN rfl) ?_;clear H;intro w1 b1 H
 refine xk hK2 ?_;clear hK2
 refine wp_seq_k ?_;intro K3 hK3
 refine xpU fun m1 k1=>?_
 obtain⟨t1,hE1,hF1⟩:=bnd hF
 have J1:∀(a2:Value) (v2:Value) (cs3 rs2:LV) (S3:Mem) (m4:FM) (w5:World),(∀t,has [5,6,7,8,9,10,11,12,13,14,15,16,17,18,19] t=false->look m4 t=look m1 t)->Mem.le S S3->HS ⟨S,[],w⟩ S3 w5 [.osl (v2) (t1).length 1 cs3 rs2 5,.blk b1 (([a2]++([v2]))) 104]->BA b1 a2->RL S3 cs3 t1->K3 (fr 21 m4) w5:=by
  clear H;intro a2 v2 cs3 rs2 S3 m4 w5 k5 hle3 H g4 g5
  replace hG:=GV.mono hG hle3
  replace h0_:=RdS.mono h0_ hle3
  have q5:look m4 3 = .pointer (some ⟨b1,0,none⟩):=(k5 3 rfl).trans (k1 3)
  refine hK3 _ _ ?_
  refine sr ?_;intro K9 hK9
  obtain⟨y6,e6,hF1⟩:=bnd hF1
  refine ysI (l:=[.pointer (some ⟨b1,0,none⟩)]) is69 (yfU q5 ysH) ?_
  refine(ydO (k1:=1) (k2:=0) H rfl rfl g5 (Nat.le_trans (of_decide_eq_true (znM e6)) (by decide))).mono ?_;clear H;rintro _ w6 ⟨rfl,H⟩
  replace H:HS ⟨S,[],w⟩ S3 w6 [.blk b1 (([a2]++([v2]))) 104]:=H
  refine p_as (v:=str (t1)) rfl ?_
  refine xk hK9 ?_;clear hK9
  refine wp_ret ?_
  obtain rfl:=osi hF1
  refine e_1 rfl (ypW (v:=str (t1)) rfl) ?_
  exact⟨rfl,H.toExt⟩
 refine sr ?_;intro K4 hK4
 refine p_mv (v:=v0_) (k1 0) ?_
 refine zeV (r_lenR' u22 rfl h0_ H.sub) ?_
 refine p_mv (v:=.int .i64 (0)) rfl ?_
 refine xk hK4 ?_;clear hK4
 refine wp_block ?_
 refine xpU fun m2 k2=>?_
 obtain⟨out1,hL1,hE2⟩:=bnd hE1
 replace H:=H.nilOwn 1 5;have g3:RL S [] ([]:Bs):=RL.nil
 replace H:HS ⟨S,[],w⟩ S w1 [.osl (.slice none 0 0) (([]:Bs)).length 1 [] [] 5,.blk b1 (([Value.pointer none]++([Value.slice none 0 0]))) 104]:=H
 refine xuL [5,8,9,10,11,12,13,14,15,16,17,18,19] (fun(s1:Int×Bs) (m3:FM) (w2:World)=>∃(S1:Mem) (a1:Value) (v1:Value) (cs1 rs1:LV),look m3 8 = .int .i64 (s1.1)/\Mem.le S S1/\HS ⟨S,[],w⟩ S1 w2 [.osl (v1) (s1.2).length 1 cs1 rs1 5,.blk b1 (([a1]++([v1]))) 104]/\BA b1 a1/\RL S1 cs1 s1.2) hL1 ⟨_,_,_,_,_,(k2 8),(Mem.le_refl _),H,(Or.inl rfl),g3⟩ ?_
 clear H;intro k4 s1 m3 w2 k3 hI1 o2 hb1 hh1;obtain⟨S1,a1,v1,cs1,rs1,q1,hle1,H,g1,g2⟩:=hI1
 replace hG:=GV.mono hG hle1
 replace h0_:=RdS.mono h0_ hle1
 have q2:look m3 3 = .pointer (some ⟨b1,0,none⟩):=(k3 3 rfl).trans ((k2 3).trans (k1 3))
 have q3:look m3 6=v0_:=(k3 6 rfl).trans (k2 6)
 have q4:look m3 7 = .int .i64 (((x0).length:Int)):=(k3 7 rfl).trans (k2 7)
 unfold zhX at hb1
 refine sr ?_;intro K5 hK5
 refine zeV (xrI q1 q4) ?_
 refine xk hK5 ?_;clear hK5
 refine wp_seq_k ?_;intro K6 hK6
 refine yqY (t:=decide (s1.1<((x0).length:Int))) rfl (fun hc1=>?_) (fun hc1=>?_)
 ·replace hb1:=xvJ hb1 hc1
  refine wp_skip ?_
  refine xn hK6 ?_;clear hK6
  refine wp_seq_k ?_;intro K7 hK7
  refine wp_block ?_
  refine sr ?_;intro K8 hK8
  obtain⟨y1,e1,hb1⟩:=bnd hb1
  obtain⟨b2,o3,N1,c1,cs2,hv1,hi1,hc2,hr1⟩:=h0_.get (zrG e1).2
  refine zeV (yhC (i:=(s1.1:Int).toNat) u22 tsz9 q3 hv1 q1 (zrG e1).1 hi1) ?_
  obtain rfl:=elT hr1
  refine zeV (xmP (p:=(o3+(s1.1:Int).toNat*1)) (o:=0) (v:=str (y1)) to9 H.sub rfl hc2 rfl) ?_
  refine p_as (v:=str (y1)) rfl ?_
  refine xk hK8 ?_;clear hK8
  refine wp_region_lit ?_
  refine p_mv (v:=str (y1)) rfl ?_
  refine zeV (xdR (N:=(y1).length) u9 rfl rfl) ?_
  obtain⟨y2,e2,hb1⟩:=bnd hb1
  refine ysI (l:=[.int .i64 (((y1).length:Int))]) is68 rfl ?_
  refine(xjH H.sub hG e2).mono ?_;rintro _ w3 ⟨rfl,hx⟩;replace H:=H.ext hx;clear hx
  obtain⟨y3,e3,hb1⟩:=bnd hb1
  refine zeV (xkS (r:=y3) rfl rfl (by have:=(ziM e3).1;omega) (ziM e3).2) ?_
  refine p_mv (v:=str (y1)) rfl ?_
  obtain⟨y4,e4,hb1⟩:=bnd hb1
  refine zeV (xkS (r:=y4) rfl rfl (by have:=(ziM e4).1;omega) (ziM e4).2) ?_
  obtain⟨y5,e5,hb1⟩:=bnd hb1
  refine ysI (l:=[.pointer (some ⟨b1,0,none⟩),str (y4)]) is67 (yfU q2 (yfU rfl ysH)) ?_
  refine(zxN (H.hand [1,0] rfl) g2 g1 e5).mono ?_;rintro _ w4 ⟨S2,pv1,pcs1,prs1,pa1,rfl,H2,pg1,pg2⟩
  obtain⟨H1,hle2⟩:=H.frame [1,0] [] rfl H2;clear H H2;have H:=H1;clear H1
  replace hG:=GV.mono hG hle2
  replace h0_:=RdS.mono h0_ hle2
  replace H:HS ⟨S,[],w⟩ S2 w4 [.blk b1 (([pa1]++([pv1]))) 104,.osl (pv1) (y5.2).length 1 pcs1 prs1 5]:=H
  refine wpList_nil ?_
  refine xrL ?_
  refine xn hK7 ?_;clear hK7
  refine wp_region_lit ?_
  refine zeV (xrW q1 rfl) ?_
  refine p_mv (v:=.int .i64 ((w64 (s1.1+1)))) rfl ?_
  refine wpList_nil ?_
  refine zuH ?_
  replace H:=H.sel [1,0] rfl
  replace H:HS ⟨S,[],w⟩ S2 w4 [.osl (pv1) (y5.2).length 1 pcs1 prs1 5,.blk b1 (([pa1]++([pv1]))) 104]:=H
  obtain rfl:=osi hb1
  exact⟨((w64 (s1.1+1)),y5.2),_,rfl,(by (repeat (refine zyU rfl ?_));refine ykL k3 rfl ?_;exact kcx),⟨_,_,_,_,_,rfl,(Mem.le_trans hle1 hle2),H,pg2,pg1⟩,hh1⟩
 ·replace hb1:=xuW hb1 hc1
  refine wp_exit ?_
  refine xjQ ?_
  refine xjQ ?_
  refine xgG ?_
  refine zuH ?_
  replace H:HS ⟨S,[],w⟩ S1 w2 [.osl (v1) (s1.2).length 1 cs1 rs1 5,.blk b1 (([a1]++([v1]))) 104]:=H
  obtain rfl:=osi hb1
  obtain rfl:=osi hh1
  obtain rfl:=osi hE2
  exact J1 _ _ _ _ _ _ _ (by (repeat (refine zyU rfl ?_));refine ykL k3 rfl ?_;(repeat (refine zyU rfl ?_));refine xaK k2 ?_;exact kcx) hle1 H g1 g2
end
end Go.Proofs.YtopanhneegpgcaaGreatDoor
namespace Go.Proofs.YtopanhneegpgcaaGreatDoor.Am
open Go Go.RowKit
class zrE (G:List (Nat×Obj)):Prop where
 gv:∀S,GS G S->GV S
theorem wit{p:Prop}{G:List (Nat×Obj)}[zrE G](h:p):p:=h
section
variable {G:List (Nat×Obj)}[zrE G]
def yfD:PC:=⟨[.h (.i .i64)],[.s],yrF,false⟩
theorem ygX:PCok Tryz.prog G 68 yfD:=pc1 (t1:=.i .i64) (rts:=[.s]) rfl rfl (isFn Tryz.func68 (by kernel_rfl) (by kernel_rfl)) fun S _ _ _ hG hS h=>xjH hS (zrE.gv S hG) h
def yfY:PC:=⟨[.h .s,.h .s],[.s],fun x=>yeC x.1 x.2,false⟩
omit [zrE G] in
theorem yfV:PCok Tryz.prog G 164 yfY:=pc2 (t1:=.s) (t2:=.s) (rts:=[.s]) rfl rfl rfl (isFn Tryz.func164 (by kernel_rfl) (by kernel_rfl)) fun _ _ _ _ _ _ hS h=>xsI hS h
def yiA:PC:=⟨[.h .s,.h .s],[.s,.s,.b],fun x=>cutP x.1 x.2,false⟩
theorem yhY:PCok Tryz.prog G 59 yiA:=pc2 (t1:=.s) (t2:=.s) (rts:=[.s,.s,.b]) rfl rfl rfl (isFn Tryz.func59 (by kernel_rfl) (by kernel_rfl)) fun S _ _ _ _ hG hS h=>xuN hS (zrE.gv S hG) h
def ygM:PC:=⟨[.h .s],[.i .i64,.er],yvW,false⟩
omit [zrE G] in
theorem ygO:PCok Tryz.prog G 165 ygM:=by
 refine⟨isFn Tryz.func165 (by kernel_rfl) (by kernel_rfl),fun S0 w0 us (x:Bs) (y:Int×Bool) hG hS ha hy=>?_⟩
 have ha:A2 (VR S0 []) [svOf .s x] us:=ha
 cases ha with
 |cons q1 q2=>
  cases q2
  rw[ykA (t:=.s) rfl q1]
  obtain⟨h1,h2⟩:=xqW hS (r:=y) hy
  refine h2.mono fun e w' ⟨he,hx⟩=>⟨hx,_,he,⟨_,rfl,_,_,rfl,(rfl:[_]=[_]),_,rfl,?_⟩,fun h=>by cases h⟩
  exact⟨_,rfl,.inl ⟨h1,rfl⟩⟩
end
section
variable {G:List (Nat×Obj)}
def yhX:PC:=⟨[.h (.sl .s)],[.s],zjT,false⟩
theorem yhT[zrE G]:PCok Tryz.prog G 22 yhX:=by
 refine⟨isFn Tryz.func22 (by kernel_rfl) (by kernel_rfl),fun S0 w0 us (x:List Bs) (y:Bs) hG hS ha hy=>?_⟩
 have ha:A2 (VR S0 []) [svOf (.sl .s) x] us:=ha
 cases ha with
 |cons q1 q2=>
  cases q2
  rename_i u
  have q1:rep (.sl .s) S0 [u] x:=q1
  obtain⟨u',hu,hr⟩:=q1
  cases hu
  exact(ykY hS (zrE.gv S0 hG) hr hy).mono fun e w' ⟨he,hx⟩=>⟨hx,_,he,ylC (l:=[.s]) rfl,fun h=>by cases h⟩
end
section
variable {τ:TE}{P:Program}{G:List (Nat×Obj)}
theorem xfM{f:FuncId}{fn:Func}{c:Code}{e:Ty}{T:TypeId}(hm:P.follows .mixedOrders=true)(hτ:TEok P τ)(hf:P.funcs[f]? = some fn)(hfn:IsFn P f)(hb:fn.body=some c)(hl:Nat.ble 1 fn.ntmps=true)(hr:Nat.beq fn.results.toList.length 1=true)
  (h1:run 0 fn.ntmps τ ⟨[],[],false,[]⟩ [] c ⟨[(0,.nils)],[]⟩ (finS τ fn 0 [(none,⟨[(0,.nils)],[]⟩)])=some ())
  (h2:∀xs:List (den e),run 0 fn.ntmps τ ⟨[],[],false,[]⟩ [] c ⟨[(0,.nn e xs)],[]⟩ (finS τ fn 0 [(none,⟨[(0,.own 0)],[.osl e T]⟩)])=Option.bind (app [] xs) fun r=>some r):
  SCok P G f ⟨⟨[(0,.h (.sl e))],[]⟩,1,[(none,⟨[(0,.own 0)],[.osl e T]⟩)],fun xs=>app [] xs⟩:=by
 refine⟨hfn,fun S0 w0 us E0 L0 (xs:List (den e)) (d:List (den e)) _ hul R hy=>?_⟩
 have hy:app [] xs=some d:=hy
 have hul:us.length=1:=hul
 have hle:us.length<=fn.ntmps:=by rw[hul];exact Nat.le_of_ble_eq_true hl
 obtain⟨u,rfl⟩:∃u,us=[u]:=by
  match us,hul with
  |[u],_=>exact⟨u,rfl⟩
 have hu:VB S0 E0 (.v (.sl e) xs) u:=R.sl 0
 obtain⟨v,hv,hrd⟩:=hu
 injection hv with hv
 subst hv
 have re:∀{x:SV},VR S0 E0 x u->RelV ⟨S0,zbF L0,w0⟩ S0 E0 L0 ⟨[(0,x)],[]⟩ (fun t=>[u].getD t undef) w0:=fun {x} hx=>⟨R.hs,R.lL,R.lE,R.obj,fun t=>by
  cases t with
  |zero=>exact hx
  |succ t=>trivial⟩
 by_cases hn:∃n c,u = .slice none n c
 ·have hu0:u = .slice none 0 0/\xs=[]:=by
   obtain⟨cs,k1,k2⟩:=hrd
   obtain⟨n,c',hn⟩:=hn
   rcases k1 with⟨⟨a0,k1⟩,k3,_⟩|⟨b',o,c2,ds,T2,fz,k1,_⟩
   ·rw[hn]at k1;injection k1 with _ e2 e3
    exact⟨by rw[hn,e2,e3],List.eq_nil_of_length_eq_zero k3⟩
   ·rw[hn]at k1;cases k1
  obtain⟨rfl,rfl⟩:=hu0
  have hd:d=[]:=ypM hy
  subst hd
  refine(yrA hm hτ (ctok (G:=[]) (pc:=[]) (sc:=[]) (k:=false) trivial trivial _ (fun _ h=>by cases h)) hf hb hle hr (re (x:=.nils) rfl) h1).mono fun e' w' ⟨v,he,S',E',L',σo,V',ho,hS,hP,R',hv0,hn0,hres⟩=>?_
  have hσ:σo=⟨[(0,.nils)],[]⟩:=by
   have:=ho (γ:=St) fun _ σ=>some σ
   exact(osi this).symm
  subst hσ
  have hl':L'.length=0:=R'.lL
  have hE':E'.length=0:=R'.lE
  have e1:L'=[]:=List.eq_nil_of_length_eq_zero hl'
  have e2:E'=[]:=List.eq_nil_of_length_eq_zero hE'
  subst e1;subst e2
  have h0:V' 0 = .slice none 0 0:=R'.sl 0
  refine⟨v,he,S',[.osl 0 (.slice none 0 0) (tsz e)],[.osl (.slice none 0 0) 0 (tsz e) [] [] T],⟨[(0,.own 0 0)],[.osl 0 e T []]⟩,V',fun k=>?_,hS,fun k e hk=>absurd hk (Nat.not_lt_zero k),⟨HS.nil R'.hs _ _,rfl,rfl,fun i o h=>?_,fun t=>?_⟩,?_,Nat.zero_le _,hres⟩
  ·show k (exOf none) _=_
   have:(Shp.put (⟨[(0,.own 0)],[.osl e T]⟩:Shp) ([]:List (den e)))=⟨[(0,.own 0 0)],[.osl 0 e T []]⟩:=by
    obtain⟨q,hq⟩:=zeI e
    have e0:∀y:den (.sl e),zdQ [.osl e T] [.v (.sl e) y]=[.osl 0 e T y]:=fun y=>by
     rw[zdQ,hq];rfl
    have e1:zdQ [.osl e T] [.v (.sl e) ([]:List (den e))]=[.osl 0 e T []]:=e0 _
    exact congrArg (fun hp=>(⟨[(0,.own 0 0)],hp⟩:St)) e1
   rw[this];rfl
  ·cases i with
   |zero=>cases h;exact⟨_,_,rfl,rfl,.slice none 0 0,.slice none 0 0,[],[],rfl,rfl,rfl,.inl rfl⟩
   |succ i=>cases h
  ·cases t with
   |zero=>exact VR.ofC (show VC S' _ (.own 0 0) (V' 0) by rw[h0];exact⟨rfl,_,rfl,fun r v s he=>by cases he;exact⟨Nat.le_refl 0,fun _=>rfl⟩⟩)
   |succ t=>trivial
  ·intro i ver e' T' xs h
   cases i with
   |zero=>cases h;rfl
   |succ i=>cases h
 ·exact(yrA hm hτ (ctok (G:=[]) (pc:=[]) (sc:=[]) (k:=false) trivial trivial _ (fun _ h=>by cases h)) hf hb hle hr (re (x:=.nn e xs) ⟨hrd,fun n c h=>hn ⟨n,c,h⟩⟩) ((h2 xs).trans (by rw[hy];rfl))).mono fun _ _ h=>h
def finC(τ:TE)(f:Func)(e:Ty)(ex:Ex)(σ:St):Option (List (den e)):=match ex with
 |.exit _=>none
 |_=>match ycQ τ σ f.results.toList with
  |some [.cl e' xs]=>match tyEq e' e with
   |some ⟨h⟩=>some (zkS (by rw[h]:Ty.sl e'=Ty.sl e) (show den (.sl e')from xs))
   |none=>none
  |_=>none
theorem ypX{f:FuncId}{fn:Func}{c:Code}{e:Ty}(hm:P.follows .mixedOrders=true)(hτ:TEok P τ)(hf:P.funcs[f]? = some fn)(hfn:IsFn P f)(hb:fn.body=some c)(hl:Nat.ble 1 fn.ntmps=true)
  (h1:∀xs:List (den e),run 0 fn.ntmps τ ⟨[],[],false,[]⟩ [] c ⟨[(0,.v (.sl e) xs)],[]⟩ (finC τ fn e)=Option.bind (chk (decide ((xs.length:Int)=(xs.length:Int)))) fun _=>Option.bind (subH xs (xs.length:Int)) fun r=>some r):
  PCok P G f ⟨[.h (.sl e)],[.sl e],fun xs=>some xs,true⟩:=by
 refine⟨hfn,fun S0 w0 us (xs:List (den e)) (y:List (den e)) _ hS ha hy=>?_⟩
 have hxy:xs=y:=osi hy
 subst hxy
 have ha:A2 (VR S0 []) [SV.v (.sl e) xs] us:=ha
 have h2:run 0 fn.ntmps τ ⟨[],[],false,[]⟩ [] c ⟨[(0,.v (.sl e) xs)],[]⟩ (finC τ fn e)=some xs:=by
  rw[h1 xs]
  have h3:subH xs (xs.length:Int)=some xs:=by
   unfold subH
   simp
  simp[chk,h3]
 have hul:us.length=1:=by rw[<-ha.len];rfl
 refine enter hf hb rfl (by rw[hul];exact hl) ?_
 have R0:Rel fn.ntmps ⟨S0,[],w0⟩ S0 [] [] ⟨argS 0 [SV.v (.sl e) xs],[]⟩ (argm us 0) w0:=by
  refine⟨HS.start hS,rfl,rfl,fun i o h=>by simp at h,fun t=>?_⟩
  show VR S0 [] (lkS (argS 0 [SV.v (.sl e) xs]) t) (bif Nat.blt t fn.ntmps then look (argm us 0) t else undef)
  cases ht:Nat.blt t fn.ntmps with
  |true=>exact yyY 0 t ha
  |false=>
   rw[zmI]at ht
   have h1:=of_decide_eq_false ht
   have h2:=Nat.le_of_ble_eq_true hl
   rw[yhG (by simp;omega)]
   trivial
 refine zuU hm hτ (ctok (G:=[]) (pc:=[]) (sc:=[]) (k:=false) trivial trivial _ (fun _ h=>by cases h)) c R0 (finC τ fn e) xs _ h2 fun ex σ' S' E' L' m' w' h1 _ _ _ R1=>?_
 have key:∀(_:(match ycQ τ σ' fn.results.toList with
   |some [.cl e' xs]=>match tyEq e' e with
    |some ⟨h⟩=>some (zkS (by rw[h]:Ty.sl e'=Ty.sl e) (show den (.sl e')from xs))
    |none=>none
   |_=>none)=some xs),(fr fn.ntmps m').defers=[]/\∃v,(results fn (fr fn.ntmps m').tmps).run P w' = .ok v w'/\Ext w0 w'/\repR (gr S0 w0 w') [.sl e] v xs/\∃a n,v = .slice a n n:=fun h1=>by
  split at h1
  ·rename_i e' ys hl1
   split at h1
   ·rename_i hh _
    subst hh
    have hys:ys=xs:=osi h1
    subst hys
    obtain⟨vs,h3,h4⟩:=yeT (P:=P) hτ R1 hl1
    obtain⟨v,rfl,h5⟩:=h3.one
    obtain⟨h5,a,h6⟩:=(show VB S' E' (.cl e' ys) v from h5)
    refine⟨rfl,v,?_,R1.hs.toExt,⟨v,rfl,RdS.mono h5 R1.hs.gr⟩,a,_,h6⟩
    rw[zuM,Array.mapM_eq_mapM_toList]
    simp only[Sem.run_bind,Sem.run_map,h4,Result.andThen_ok,Sem.run_pure]
    rfl
   ·cases h1
  ·cases h1
 cases ex with
 |normal=>
  obtain⟨h2,v,h3,h4,h5,h6⟩:=key h1
  exact⟨h2,v,h3,h4,v,rfl,h5,fun _=>h6⟩
 |ret=>
  obtain⟨h2,v,h3,h4,h5,h6⟩:=key h1
  exact⟨h2,v,h3,h4,v,rfl,h5,fun _=>h6⟩
 |exit i=>cases h1
end
end Go.Proofs.YtopanhneegpgcaaGreatDoor.Am
namespace Go.Proofs.YtopanhneegpgcaaGreatDoor.Am
open Go Go.RowKit Go.Maps Go.Sort
open Go.WideElems (Fit rd rg)
def zsN:List Bs->Bool
 |x::y::l=>Op.bytesLess x y&&zsN (y::l)
 |_=>true
def yeY{α:Type}(es:List (Bs×α)):Bool:=decide (es.length<=1048576)&&(es.all (fun p=>decide (p.1.length<=68719476736))&&zsN (es.map (·.1)))
def zoT{α:Type}(es:List (Bs×α)):Option (List Bs×List (Bs×α)):=bif yeY es then some (es.map (·.1),es)else none
theorem ykU:∀{l:List Bs},zsN l=true->l.Pairwise fun x y=>x<y
 |[],_=>.nil
 |[x],_=>List.pairwise_singleton _ _
 |x::y::l,h=>by
  unfold zsN at h
  rw[Bool.and_eq_true,bytesLess_eq,decide_eq_true_eq]at h
  have ih:=ykU (l:=y::l) h.2
  refine List.pairwise_cons.2 ⟨fun z hz=>?_,ih⟩
  rcases List.mem_cons.1 hz with rfl|hz
  ·exact h.1
  ·exact List.lt_trans h.1 ((List.pairwise_cons.1 ih).1 z hz)
theorem yuT{l:List Bs}(h:zsN l=true):l.mergeSort (fun x y=>decide (x<=y))=l:=by
 refine List.mergeSort_of_pairwise ((ykU h).imp fun {a b} hab=>?_)
 simp only[decide_eq_true_eq]
 exact List.le_of_lt hab
def anyV:Value->Option (DataW Unit×List MemPlace):=fun _=>some (.nil,[])
section
variable {P:Program}{S:Mem}
theorem ysU{V:Ty}{kT:TypeId}(hk:P.underlying kT=some .string):∀{l:List (Bs×den V)} {ents:List MapEntry},A2 (fun(p:Bs×den V) en=>rep1 .s S en.key p.1/\rep1 V S en.val p.2) l ents->(∀p∈l,p.1.length<=68719476736)->ents.map (·.key)=l.map (fun p=>str p.1)/\(∀x∈ents,∃y,Go.WideElems.rd P kT anyV x=some y)/\(ents.map (Go.WideElems.rg P kT anyV)).map (fun p=>strOf p.1)=l.map (·.1)
 |_,_,.nil,_=>⟨rfl,fun _ h=>(by cases h),rfl⟩
 |p::l,en::ents,.cons a r,hs=>by
  obtain⟨i1,i2,i3⟩:=ysU hk r fun q hq=>hs q (List.mem_cons_of_mem _ hq)
  have hkey:en.key=str p.1:=by have h:[en.key]=[str p.1]:=a.1;injection h
  have hp:=hs p List.mem_cons_self
  have hr:Go.WideElems.rd P kT anyV en=some (.string p.1,.nil):=by
   unfold Go.WideElems.rd
   rw[hkey]
   have:=Go.WideMaps.keyOf_string_mk (P:=P) (k:=kT) hk (s:=⟨p.1.toArray⟩) (by show p.1.toArray.size<=_;simp[maxLen];omega)
   show(keyOf P kT (.string ⟨p.1.toArray⟩)).bind _=_
   rw[this]
   rfl
  refine⟨by rw[List.map_cons,List.map_cons,i1,hkey],fun x hx=>?_,?_⟩
  ·rcases List.mem_cons.1 hx with rfl|hx
   ·exact⟨_,hr⟩
   ·exact i2 x hx
  ·rw[List.map_cons,List.map_cons,List.map_cons,i3]
   congr 1
   unfold Go.WideElems.rg
   rw[hr]
   rfl
theorem xhQ{V:Ty}{kT:TypeId}{w:World}{b ck:Nat}{es:List (Bs×den V)}{ents:List MapEntry}(hk:P.underlying kT=some .string)(hm:MR S .s V es ents)(hb:∀en∈ents,en.born<ck)(hh:w.heap[b]? = some (.map ents.toArray ck))(ho:yeY es=true):
  ∃D0:DataW Unit,w.ownsMap P kT anyV b es.length D0/\Maps.size D0=es.length/\(strKeys D0).Perm (es.map (·.1)):=by
 obtain⟨(l:List (Bs×den V)),(hl:l.Perm es),hA⟩:=hm.perm
 unfold yeY at ho
 simp only[Bool.and_eq_true,decide_eq_true_eq,List.all_eq_true]at ho
 obtain⟨h1,h2,h3⟩:=ho
 have hlen:ents.length=es.length:=by rw[<-hA.len];exact hl.length_eq
 obtain⟨k1,k2,k3⟩:=ysU hk hA fun p hp=>h2 p (hl.mem_iff.1 hp)
 have hnd:(es.map (·.1)).Nodup:=(ykU h3).imp fun {a b} hab e=>by subst e;exact List.lt_irrefl _ hab
 refine⟨_,⟨ents.toArray,ck,hh,⟨by simp[maxLen];omega,⟨by simpa using hb,by simpa using hm.nd,?_⟩,by simpa using k2⟩,by simp[hlen],rfl⟩,?_,?_⟩
 ·have e1:l.map (fun p=>str p.1)=(l.map (·.1)).map str:=by rw[List.map_map];rfl
  simp only[]
  rw[k1,e1]
  refine List.Pairwise.map _ (fun a b hab e=>hab (zzW e)) ((hl.map _).nodup_iff.2 hnd)
 ·show((ents.map (Go.WideElems.rg P kT anyV)).foldr DataW.insert []).length=_
  rw[length_sorted,List.length_map,hlen]
 ·show(((ents.map (Go.WideElems.rg P kT anyV)).foldr DataW.insert []).map fun p=>strOf p.1).Perm _
  refine((Go.WideShapes.sorted_perm _).map _).trans ?_
  rw[k3]
  exact hl.map _
theorem ycH:∀(l:List Bs),@RL (den .s) (rpD .s) S (l.map encStr) l
 |[]=>rfl
 |x::l=>⟨[str x],l.map encStr,rfl,(rfl:[_]=[_]),ycH l⟩
theorem xpT{w':World}{base n:Nat}{sT:TypeId}{v:Value}{ks:List Bs}(hn:ks.length=n)(hrow:w'.ownsRow base sT 1 v n (ks.map encStr))(hm:∀b,base<=b->S b=w'.heap[b]?):@RdS (den .s) (rpD .s) S v ks:=by
 subst hn
 refine⟨ks.map encStr,?_,ycH ks⟩
 obtain⟨g1,g2⟩:=hrow
 show SlS S v ks.length 1 (ks.map encStr)
 rcases g2 with⟨rfl,g3⟩|⟨gb,cap,cur,rfl,g3,g4,g5,g6,g7,g8⟩
 ·have:ks=[]:=List.eq_nil_of_length_eq_zero g3
  subst this
  exact .inl ⟨⟨_,rfl⟩,rfl,rfl⟩
 ·refine .inr ⟨gb,0,cap,cur.toList,sT,(0,0),rfl,g5,?_,?_,?_⟩
  ·rw[hm gb g3,g4]
  ·have:cur.toList.length=cap*1:=by simpa using g7
   rw[this];omega
  ·rw[zaS,List.drop_zero];exact g8
theorem zyH{G:List (Nat×Obj)}{f g:FuncId}{mT kT sT:TypeId}{V:Ty}(hfn:IsFn P f)(hk:P.underlying kT=some .string)
  (hS:∀(Bm b nn:Nat) (D0:DataW Unit) (w:World),Bm<w.heap.size->w.cell? ⟨Bm,0,none⟩=some (.map (some b))->w.ownsMap P kT anyV b nn D0->Maps.size D0<=maxLen->Maps.size D0*16<=140737488355328 ->
   Calls P f #[.func (.func g) #[] #[.pointer (some ⟨Bm,0,none⟩)]] w fun e w'=>∃(v:Value) (ss:List Bs),e = .returned v/\ss.Perm (strKeys D0)/\w'.ownsRow w.heap.size sT 1 v ss.length ((ss.mergeSort (fun x y=>decide (x<=y))).map encStr)/\(v = .slice none 0 0↔ss=[])/\Below w.heap.size w w'):
  SCok P G f ⟨⟨[(0,.fn g [] [.ptr 0 0])],[.blk mT [.mpr 1],.mp true .s V]⟩,1,[(none,⟨[(0,.h (.sl .s))],[.blk mT [.mpr 1],.mp true .s V]⟩)],fun(es:List (Bs×den V))=>zoT es⟩:=by
 refine⟨hfn,fun S0 w0 us E0 L0 (es:List (Bs×den V)) d _ hul R hy=>?_⟩
 have hy:(bif yeY es then some (es.map (·.1),es)else none)=some d:=hy
 obtain⟨hok,hy⟩:=zaG hy
 have hd:d=(es.map (·.1),es):=(osi hy).symm
 subst hd
 have hul:us.length=1:=hul
 obtain⟨u,rfl⟩:∃u,us=[u]:=by
  match us,hul with
  |[u],_=>exact⟨u,rfl⟩
 obtain⟨q,hq⟩:=zeI (.mp .s V)
 have hput:(Shp.put (⟨[(0,.fn g [] [.ptr 0 0])],[.blk mT [.mpr 1],.mp true .s V]⟩:Shp) es)=⟨[(0,.fn g [] [.ptr 0 0])],[.blk mT [.mpr 1],.mp 0 .s V es]⟩:=by
  have e0:∀y:den (.mp .s V),zdQ [.blk mT [.mpr 1],.mp true .s V] [.v (.mp .s V) y]=[.blk mT [.mpr 1],.mp 0 .s V y]:=fun y=>by
   simp only[zdQ,yfZ,Sh.putC,Sh.putB,hq]
   rfl
  exact congrArg (fun hp=>(⟨[(0,.fn g [] [.ptr 0 0])],hp⟩:St)) (e0 es)
 have hput2:(Shp.put (⟨[(0,.h (.sl .s))],[.blk mT [.mpr 1],.mp true .s V]⟩:Shp) ((es.map (·.1),es):List Bs×List (Bs×den V)))=⟨[(0,.v (.sl .s) (es.map (·.1)))],[.blk mT [.mpr 1],.mp 0 .s V es]⟩:=by
  have e0:∀y:den (.mp .s V),zdQ [.blk mT [.mpr 1],.mp true .s V] [.v (.mp .s V) y]=[.blk mT [.mpr 1],.mp 0 .s V y]:=fun y=>by
   simp only[zdQ,yfZ,Sh.putC,Sh.putB,hq]
   rfl
  exact congrArg (fun hp=>(⟨[(0,.v (.sl .s) (es.map (·.1)))],hp⟩:St)) (e0 es)
 have R:RelV ⟨S0,zbF L0,w0⟩ S0 E0 L0 ⟨[(0,.fn g [] [.ptr 0 0])],[.blk mT [.mpr 1],.mp 0 .s V es]⟩ (fun t=>[u].getD t undef) w0:=by rw[<-hput];exact R
 obtain⟨r0,e0,a1,a2,b0,cs,rfl,rfl,a3⟩:=R.objN (i:=0) rfl
 obtain⟨c,rfl,a4⟩:=a3.one
 obtain⟨_,e1,a5,a6⟩:=(show VB S0 E0 (.mpr 1) c from a4)
 obtain⟨r1,e1',c1,c2,b,ents,ck,rfl,rfl,c3,c4⟩:=R.objN (i:=1) rfl
 rw[c2]at a5;cases a5
 have hc:=a6 _ _ _ _ rfl
 subst hc
 have hh0:w0.heap[b0]? = some (.cells [Value.map (some b)].toArray mT (0,0)):=R.hs.own 0 _ a1
 have hh1:w0.heap[b]? = some (.map ents.toArray ck):=R.hs.own 1 _ c1
 have hu:u = .func (.func g) #[] #[.pointer (some ⟨b0,0,none⟩)]:=by
  obtain⟨xs,ys,hu,h1,h2⟩:=(show VC S0 E0 (.fn g [] [.ptr 0 0]) u from R.sl 0)
  cases h1
  obtain⟨y,rfl,h3⟩:=h2.one
  obtain⟨b1,hy,e2,h4,h5⟩:=(show VB S0 E0 (.ptr 0 0) y from h3)
  rw[a2]at h4;cases h4
  cases h5 _ rfl
  rw[hu,hy]
 subst hu
 obtain⟨D0,d1,d2,d3⟩:=xhQ (S:=S0) hk c3 c4 hh1 hok
 have hlen:es.length<=1048576:=by unfold yeY at hok;simp only[Bool.and_eq_true,decide_eq_true_eq]at hok;exact hok.1
 have hrise:zsN (es.map (·.1))=true:=by unfold yeY at hok;simp only[Bool.and_eq_true]at hok;exact hok.2.2
 have hcell:w0.cell? ⟨b0,0,none⟩=some (.map (some b)):=by simp[World.cell?,hh0]
 refine(hS b0 b es.length D0 w0 (Array.getElem?_eq_some_iff.1 hh0).1 hcell d1 (by rw[d2];simp[maxLen];omega) (by rw[d2];omega)).mono fun e w' ⟨v,ss,he,hp,hrow,hnil,hx⟩=>?_
 have hx:Ext w0 w':=hx
 have hss:ss.mergeSort (fun x y=>decide (x<=y))=es.map (·.1):=by
  rw[<-yuT hrise]
  exact mergeSort_of_perm (hp.trans d3)
 have hsl:ss.length=es.length:=by rw[hp.length_eq,d3.length_eq,List.length_map]
 rw[hss,hsl]at hrow
 have R':=R.call hx
 have hv:VB (gr S0 w0 w') E0 (.v (.sl .s) (es.map (·.1))) v:=
  ⟨v,rfl,xpT (List.length_map _) hrow fun b hb=>by unfold Go.Proofs.YtopanhneegpgcaaGreatDoor.gr;rw[if_neg (by omega)]⟩
 refine⟨v,he,gr S0 w0 w',E0,L0,⟨[(0,.v (.sl .s) (es.map (·.1)))],[.blk mT [.mpr 1],.mp 0 .s V es]⟩,fun _=>v,fun k=>?_,yoY R.hs.sub,Pin.refl _ _,⟨R'.hs,R'.lL,R'.lE,R'.obj,fun t=>?_⟩,?_,Nat.le_refl _,rfl⟩
 ·show k (exOf none) ((Shp.put _ _).app [])=_
  rw[hput2];rfl
 ·cases t with
  |zero=>exact VR.ofC (show VC _ _ (.v (.sl .s) (es.map (·.1))) v from hv)
  |succ t=>trivial
 ·intro i ver e' T' xs h
  cases i with
  |zero=>cases h
  |succ i=>
   cases i with
   |zero=>cases h
   |succ i=>cases h
end
end Go.Proofs.YtopanhneegpgcaaGreatDoor.Am
