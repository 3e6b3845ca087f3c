/- A machine over plain values: what it computes of a function's code, the call answers. A machine over plain values: contracts of functions whose arguments and results are numbers, bools and texts. Some functions of Go's library: what they compute, and that they do. What some functions compute, and that they do. A machine over plain values: contracts of some functions of Go's library. A machine over plain values: contracts of package hash and of people.Form. What some functions compute, over plain values, and that they do. Package otp: the steps of a window, one behind the other, as an iterator hands them on. Package otp: the code of a step is there; the last step of a window that has a code. Package otp: Find, by the kit's law of a range over a function. What is left open: operations that laws speak of. Conditions: none; definitions, and that they are there. A machine over plain values: library functions told by hand. A machine over plain values: slices.Sorted of maps.Keys. Conditions: as each theorem says. -/
import Derived.Shelf.Strings.SlTrimAscii
import Derived.KernelRfl
import Derived.RangeFuncNested
import Derived.RangeFuncBound
import Derived.RangeFuncCalls
import Derived.RangeFuncLeaves
import Derived.Shelf.Abstract
import Derived.Shelf.RegionOpen
import Derived.WalkKit
import Derived.OwnWalkIn
import Derived.TacticsInMore
import Derived.LoopNIn
import Derived.LoopIn
import Derived.Test.YtmkomlbiaebddaaGreatDoorProg
import Derived.Sort.KeysCollected
import Derived.Sort.Walk0
import Derived.Test.YtmkomlbiaebddaaGreatDoorQdJ
namespace Go.Proofs.YtmkomlbiaebddaaGreatDoor.Am
open Go Go.RowKit
section
variable {β:Type}{τ:TE}{Γ:CT}{η:HT}{N0 n:Nat}{P:Program}{B:Bas}{S:Mem}{E:List EI}{L:List Res}{σ:St}{m:FM}{w:World}{ops:Array Oper}{Q:Exit→Act→World→Prop}{rest:List Oper}{o:Oper}
def exQ:Ex→Exit
 |.normal=>.normal
 |.exit i=>.exit i
 |.ret=>.ret
theorem ztM{α γ:Type}{f:α→γ}{o:Option α}{y:γ}(h:mapO f o=some y):∃x,o=some x∧f x=y:=by
 cases o with
 |none=>cases h
 |some x=>cases h;exact⟨x,rfl,rfl⟩
theorem ysW{a:Option Nat}{e:Ex}(h:isEx a e=true):exOf a=e:=by
 cases a with
 |none=>cases e<;>first|rfl|cases h
 |some n=>
  cases e with
  |normal=>cases h
  |exit i=>
   have h1:=Nat.eq_of_beq_eq_true (zaQ h);subst h1
   have h2:=zbC h
   cases hb:Nat.beq n 1000000 with
   |true=>rw[hb]at h2;cases h2
   |false=>simp only[exOf,hb,cond_false]
  |ret=>simp only[exOf,show Nat.beq n 1000000=true from h,cond_true]
theorem Agr.ev{D:List Nat}{m m':FM}(h:Agr D m m'){t:Nat}(ht:hasN D t=false):evO n m' (.tmp t)=evO n m (.tmp t):=by
 show(bif Nat.blt t n then look m' t else undef)=(bif Nat.blt t n then look m t else undef)
 rw[h t ht]
theorem ztD{S':Mem}{E':List EI}{m':FM}{D:List Nat}(R:Rel n B S E L σ m w)(hS:Mem.le S S')(hA:Agr D m m'):∀(kp:List Nat) (t:Nat),VR S' E' (lkS (zuL D σ kp) t) (evO n m' (.tmp t))
 |[],_=>trivial
 |d::kp,t=>by
  unfold zuL
  cases hb:!(hasN D d)&&zzA (lkS σ.sl d) with
  |false=>exact ztD R hS hA kp t
  |true=>
   simp only[cond_true,lkS]
   cases hd:Nat.beq d t with
   |false=>exact ztD R hS hA kp t
   |true=>
    have:=Nat.eq_of_beq_eq_true hd;subst this
    have h1:=zaQ hb
    have h2:hasN D d=false:=by cases hh:hasN D d with
     |true=>rw[hh]at h1;cases h1
     |false=>rfl
    rw[hA.ev h2]
    exact ynU (zbC hb) (R.sl d) hS
theorem yxF:∀(a b:List (Nat×SV)) (t:Nat),lkS (a++b) t=lkS a t∨lkS (a++b) t=lkS b t
 |[],_,_=>.inr rfl
 |(d,x)::a,b,t=>by
  simp only[List.cons_append,lkS]
  cases Nat.beq d t with
  |true=>exact .inl rfl
  |false=>exact yxF a b t
theorem RelV.app{V:Nat→Value}(R:RelV B S E L σ V w){l:List (Nat×SV)}(h:∀t,VR S E (lkS l t) (V t)):RelV B S E L (σ.app l) V w:=
 ⟨R.hs,R.lL,R.lE,R.obj,fun t=>by
  show VR S E (lkS (σ.sl++l) t) _
  rcases yxF σ.sl l t with e|e
  ·rw[e];exact R.sl t
  ·rw[e];exact h t⟩
theorem yiO:∀(os:List OSh) (l:List SV),Ver0 (zdA os l)
 |[],l=>fun i ver e T xs h=>by cases l<;>(simp[zdA]at h)
 |o::os,l=>by
  obtain⟨a,l',h,ha⟩:=ydU o os l
  rw[h]
  intro i ver e T xs h
  cases i with
  |zero=>simp at h;exact ha _ _ _ _ h
  |succ i=>exact yiO os l' i ver e T xs (by simpa using h)
theorem get_put{s:Shp}{x:zcZ s.tys}(h:s.get N0 σ=some x):Ver0 (s.put x).hp∧N0≤(s.put x).hp.length:=by
 refine⟨yiO _ _,?_⟩
 unfold Shp.get at h
 obtain⟨h1,_⟩:=zaF h
 show N0≤(zdA s.hp _).length
 rw[zwI]
 exact Nat.le_of_ble_eq_true (zaQ h1)
theorem zyE{V:Nat→Value}(R:RelV B S E L σ V w){e:Ex}{kp:List (Nat×SV)}(hk:∀S' E',Mem.le S S'→∀t,VR S' E' (lkS kp t) (V t)):∀{outs:List (Option Nat×Shp)} {d:DS outs},inj N0 outs e σ=some d→∃S' E' L' σ',Mem.le S S'∧Pin N0 E E'∧RelV B S' E' L' σ' V w∧Ver0 σ'.hp∧N0≤σ'.hp.length∧∀{γ:Type} (k:Ex→St→Option γ),out kp outs d k=k e σ'
 |[],_,h=>by cases h
 |[a],d,h=>by
  obtain⟨h1,h2⟩:=zaF h
  obtain⟨S',E',L',hS,hP,R'⟩:=yeR R (fun l=>zlF l R) h2
  obtain⟨h3,h4⟩:=get_put h2
  refine⟨S',E',L',_,hS,hP,R'.app (hk S' E' hS),h3,h4,fun k=>?_⟩
  show k (exOf a.1) _=_;rw[ysW h1]
 |a::b::l,d,h=>by
  have next:mapO Sum.inr (inj N0 (b::l) e σ)=some d→∃S' E' L' σ',Mem.le S S'∧Pin N0 E E'∧RelV B S' E' L' σ' V w∧Ver0 σ'.hp∧N0≤σ'.hp.length∧∀{γ:Type} (k:Ex→St→Option γ),out kp (a::b::l) d k=k e σ':=fun h=>by
   obtain⟨x,h1,rfl⟩:=ztM h
   exact zyE R hk (outs:=b::l) h1
  simp only[inj]at h
  cases hb:isEx a.1 e with
  |true=>
   rw[hb]at h
   simp only[cond_true]at h
   split at h
   ·rename_i x h1
    cases h
    obtain⟨S',E',L',hS,hP,R'⟩:=yeR R (fun l=>zlF l R) h1
    obtain⟨h3,h4⟩:=get_put h1
    refine⟨S',E',L',_,hS,hP,R'.app (hk S' E' hS),h3,h4,fun k=>?_⟩
    show k (exOf a.1) _=_;rw[ysW hb]
   ·exact next h
  |false=>
   rw[hb]at h
   exact next h
theorem HS.nil(H:HS B S w L)(sz:Nat)(T:TypeId):HS B S w (.osl (.slice none 0 0) 0 sz [] [] T::L):=by
 refine⟨H.fr,H.sub,H.keep,fun i q h=>?_,fun i q b h hb=>?_,fun i j q s b hi hj hq hs=>?_⟩
 ·cases i with
  |zero=>cases h;exact .inl ⟨rfl,rfl,rfl,rfl⟩
  |succ i=>exact H.own _ q h
 ·cases i with
  |zero=>cases h;cases hb
  |succ i=>exact H.old _ q b h hb
 ·cases i with
  |zero=>cases hi;cases hq
  |succ i=>
   cases j with
   |zero=>cases hj;cases hs
   |succ j=>rw[H.inj i j q s b hi hj hq hs]
theorem nl_ok{c:SV}{u:Value}(hc:isNl c=true)(hx:VR S E c u):Same S (.slice none 0 0) u 0∧u.oneCell'=true:=by
 cases c with
 |nils=>have hx:u = .slice none 0 0:=hx;subst hx;exact⟨.inl rfl,rfl⟩
 |emp=>have hx:VB S E .emp u:=hx;obtain⟨h1,a,rfl⟩:=hx;exact⟨.inr ⟨rfl,rfl,h1,a,rfl⟩,rfl⟩
 |_=>cases hc
theorem xdO(R:Rel n B S E L σ m w){c:SV}{u:Value}(hc:isNl c=true)(hx:VR S E c u)(e:Ty)(T:TypeId):Rel n B S (E++[.osl 0 u (tsz e)]) (L++[.osl (.slice none 0 0) 0 (tsz e) [] [] T]) ⟨σ.sl,σ.hp++[.osl 0 e T []]⟩ m w∧VC S (E++[.osl 0 u (tsz e)]) (.own σ.hp.length 0) u:=by
 obtain⟨h1,h2⟩:=nl_ok hc hx
 refine⟨R.snoc (HS.nil R.hs _ _) ⟨.slice none 0 0,u,[],[],rfl,rfl,rfl,h1⟩,h2,.osl 0 u (tsz e),by rw[←R.lE];simp,fun r v s he=>?_⟩
 cases he;exact⟨Nat.le_refl 0,fun _=>rfl⟩
theorem mk1_ok(R:Rel n B S E L σ m w)(x:Mk):∃S' E' L',Mem.le S S'∧ELe E E'∧Rel n B S' E' L' (mk1 σ x) m w:=by
 have same:∃S' E' L',Mem.le S S'∧ELe E E'∧Rel n B S' E' L' σ m w:=⟨S,E,L,Mem.le_refl _,ELe.refl _,R⟩
 cases x with
 |sl d e T=>
  simp only[mk1]
  cases hn:isNl (lkS σ.sl d) with
  |false=>exact same
  |true=>
   obtain⟨R1,h1⟩:=xdO R hn (R.sl d) e T
   exact⟨S,_,_,Mem.le_refl _,ELe.push E _,R1.re (d:=d) (VR.ofC h1)⟩
 |cell d i e T=>
  simp only[mk1]
  split
  ·split
   ·rename_i id off hp _ T' cs hc
    split
    ·rename_i c hi
     cases hn:isNl c with
     |false=>exact same
     |true=>
      obtain⟨r0,e0,h1,h2,b,us,rfl,rfl,h3⟩:=R.objN hc
      obtain⟨u,h4,h5⟩:=h3.at hi
      obtain⟨R1,h6⟩:=xdO R hn (VR.ofC h5) e T
      have hlt:id<σ.hp.length:=by rw[←R.lE];exact(List.getElem?_eq_some_iff.1 h2).1
      have h2':(E++[EI.osl 0 u (tsz e)])[id]? = some (.blk b):=by rw[List.getElem?_append_left (by rw[R.lE];exact hlt)];exact h2
      have h1':lkR (L++[Res.osl (.slice none 0 0) 0 (tsz e) [] [] T]) id=some (.blk b us T'):=by
       rw[zaR,List.getElem?_append_left (by rw[R.lL];exact hlt),←zaR];exact h1
      have hst:stR (L++[Res.osl (.slice none 0 0) 0 (tsz e) [] [] T]) id (.blk b us T')=L++[Res.osl (.slice none 0 0) 0 (tsz e) [] [] T]:=by
       rw[zqL]
       apply List.ext_getElem?
       intro j
       by_cases hj:id=j
       ·subst hj
        rw[zaR]at h1'
        rw[List.getElem?_set_self (List.getElem?_eq_some_iff.1 h1').1,h1']
       ·rw[List.getElem?_set_ne hj]
      have h7:A2 (VC S (E++[EI.osl 0 u (tsz e)])) (setN cs i (.own σ.hp.length 0)) us:=by
       have h8:A2 (VC S (E++[EI.osl 0 u (tsz e)])) cs us:=h3.imp fun _ _ h=>h.mono (Mem.le_refl S) (ELe.push E _)
       have h9:=A2.set (a:=SV.own σ.hp.length 0) h6 i h8
       have h10:us.set i u=us:=by
        apply List.ext_getElem?
        intro j
        by_cases hj:i=j
        ·subst hj;rw[List.getElem?_set_self (List.getElem?_eq_some_iff.1 h4).1,h4]
        ·rw[List.getElem?_set_ne hj]
       rw[zfB]
       rw[h10]at h9;exact h9
      exact⟨S,_,_,Mem.le_refl _,ELe.push E _,R1.upd1 (r':=.blk b us T') h2' (by rw[hst];exact R1.hs) ⟨b,us,rfl,rfl,h7⟩⟩
    ·exact same
   ·exact same
  ·exact same
theorem zwQ:∀(l:List Mk) {σ:St} {S:Mem} {E:List EI} {L:List Res} (_:Rel n B S E L σ m w),∃S' E' L',Mem.le S S'∧ELe E E'∧Rel n B S' E' L' (zuJ σ l) m w
 |[],_,S,E,L,R=>⟨S,E,L,Mem.le_refl _,ELe.refl _,R⟩
 |x::l,_,_,_,_,R=>by
  obtain⟨S1,E1,L1,h1,h2,R1⟩:=mk1_ok R x
  obtain⟨S2,E2,L2,h3,h4,R2⟩:=zwQ l R1
  exact⟨S2,E2,L2,Mem.le_trans h1 h3,h2.trans h4,R2⟩
theorem ywH{K V:Ty}(hK:kOk K=true){es:List (den K×den V)}{ents:List MapEntry}(hM:MR S K V es ents){a c:MapEntry}(ha:a∈ents)(hc:c∈ents):a.key=c.key↔a.born=c.born:=by
 obtain⟨l,hl,hA⟩:=hM.perm
 have hne:l.Pairwise fun p q=>keq K p.1 q.1=false:=(hl.pairwise_iff fun h=>zxZ hK h).2 hM.ne
 obtain⟨i,hi,rfl⟩:=List.mem_iff_getElem.1 ha
 obtain⟨j,hj,rfl⟩:=List.mem_iff_getElem.1 hc
 have hlen:=hA.len
 constructor
 ·intro h
  by_cases hij:i=j
  ·subst hij;rfl
  ·exfalso
   obtain⟨p,hp,hp2⟩:=A2.at_r hA (List.getElem?_eq_getElem hi)
   obtain⟨q,hq,hq2⟩:=A2.at_r hA (List.getElem?_eq_getElem hj)
   have h2:p.1=q.1:=ydZ hK (by rw[←zwO hK hp2.1,←zwO hK hq2.1,h])
   have h3:∀{i j:Nat} {p q:den K×den V},i<j→l[i]? = some p→l[j]? = some q→p.1=q.1→False:=fun {i j p q} hij hp hq h2=>by
    obtain⟨h4,rfl⟩:=List.getElem?_eq_some_iff.1 hp
    obtain⟨h5,rfl⟩:=List.getElem?_eq_some_iff.1 hq
    have:=List.pairwise_iff_getElem.1 hne i j h4 h5 hij
    rw[h2]at this
    rw[(zjK hK).2 rfl]at this;cases this
   rcases Nat.lt_or_gt_of_ne hij with h4|h4
   ·exact h3 h4 hp hq h2
   ·exact h3 h4 hq hp h2.symm
 ·intro h
  by_cases hij:i=j
  ·subst hij;rfl
  ·exfalso
   have h4:∀{i j:Nat} (hi:i<ents.length) (hj:j<ents.length),i<j→ents[i].born=ents[j].born→False:=fun {i j} hi hj hij h=>by
    have:=List.pairwise_iff_getElem.1 hM.nd i j (by simpa using hi) (by simpa using hj) hij
    simp only[List.getElem_map]at this
    exact this h
   rcases Nat.lt_or_gt_of_ne hij with h5|h5
   ·exact h4 hi hj h5 h
   ·exact h4 hj hi h5 h.symm
theorem yuR{S R:Type}{f:S→List (Option (S⊕R))}{s:S}{r:R}(h:rngA f s=some r):∃n,Rng f n s r:=by
 unfold rngA at h
 split at h
 ·rename_i hh;cases h;exact hh.choose_spec
 ·cases h
theorem yzF{α γ:Type}{l:List α}{d:γ}{f:α→γ}{p:α}(h:p∈l):f p∈rngL l d f:=by
 cases l with
 |nil=>cases h
 |cons x l=>exact List.mem_map.2 ⟨p,h,rfl⟩
theorem xfF{γ:Type}{d t:Nat}{g0:St→Option γ}{Z:Option γ→Prop}(R:Rel n B S E L σ m w)(hZ:¬Z none)(hz:∀o∈xbF n σ d t g0,Z o){ty:TypeId}{pos:String}{aft:Array Edge}:
  outcome P (fun v w'=>∃σ' L',Z (g0 σ')∧Rel n B S E L' σ' ((d,v)::m) w') ((execOp (evO n m) ⟨some d,.next (.tmp t) false,ty,pos,aft,none⟩).run P w):=by
 have bad:∀{X:Prop},(∀o,o∈[(none:Option γ)]→Z o)→X:=fun h=>absurd (h none List.mem_cons_self) hZ
 unfold xbF at hz
 split at hz
 ·rename_i i ht
  split at hz
  ·rename_i mid gn K cur left hi
   split at hz
   ·rename_i g' K' V es hm
    split at hz
    ·rename_i hK _
     subst hK
     cases hb:Nat.beq gn g'&&Nat.blt d n with
     |false=>rw[hb]at hz;exact bad hz
     |true=>
      rw[hb]at hz
      simp only[cond_true,zjT]at hz
      have hd:Nat.blt d n=true:=zbC hb
      have hg:=Nat.eq_of_beq_eq_true (zaQ hb);subst hg
      obtain⟨r0,e0,k1,k2,b,mb,ck,seen,rfl,rfl,hK,e1,k3,k4⟩:=R.objN hi
      obtain⟨r1,e2,k5,k6,b2,ents,ck2,rfl,rfl,hM,hlt⟩:=R.objN hm
      rw[k6]at k3;cases k3
      obtain⟨_,k7⟩:=k4 _ _ _ _ rfl
      obtain⟨rfl,rfl,k8⟩:=k7 rfl
      obtain⟨l,hl,hA⟩:=hM.perm
      have hv:=R.sl t
      rw[ht]at hv
      obtain⟨b3,hv,e3,q1,q2⟩:=hv
      rw[k2]at q1;cases q1
      have:=q2 _ rfl;subst this
      have hh:w.heap[b]? = some (.mapIter (some b2) ck2 seen ck2):=R.hs.own i _ k1
      have hh2:w.heap[b2]? = some (.map ents.toArray ck2):=R.hs.own mid _ k5
      have exec:∀{u w'},(Instr.next (.pointer (some ⟨b,0,none⟩)) false ty).run P w = .ok u w'→(execOp (evO n m) ⟨some d,.next (.tmp t) false,ty,pos,aft,none⟩).run P w = .ok (.value u) w':=fun {u w'} h=>by
       have hv:evO n m (.tmp t) = .pointer (some ⟨b,0,none⟩):=hv
       simp[execOp,hv,h,Result.andThen]
      rcases run_next_at (P:=P) w ty b b2 ck2 ck2 seen ents.toArray ck2 hh hh2 (by simpa using hlt) (Nat.le_refl _)with⟨h0,hrun⟩|⟨en,hen,w1,hw1,hrun⟩
      ·rw[exec hrun]
       have hnil:rngC (keq K) es left=[]:=by
        rw[rngC,List.filter_eq_nil_iff]
        intro p hp hany
        obtain⟨k,hk,hke⟩:=List.any_eq_true.1 hany
        obtain⟨en,hen,h1⟩:=A2.mem_l hA p (hl.mem_iff.2 hp)
        have h2:en.born∉seen:=fun h=>((k8 en hen).1.1 h) k hk (by rw[zwO hK h1.1,(zjK hK).1 hke])
        have:en∈(leftOf ents.toArray seen):=by simp[leftOf,hen,h2]
        have h3:=Array.size_pos_of_mem this
        omega
       rw[hnil]at hz
       exact⟨_,_,hz _ List.mem_cons_self,R.put (x:=.tup [.v .b false]) ⟨[.bool false],rfl,.cons (show rep .b S [.bool false] false from rfl) .nil⟩ hd⟩
      ·rw[exec hrun]
       have hen':en∈ents∧en.born∉seen:=by simpa[leftOf]using hen
       obtain⟨p,hp,hpe⟩:=A2.mem_r hA en hen'.1
       have hkey:=zwO hK hpe.1
       have hex:∃k∈left,en.key=kv K k:=by
        refine Classical.byContradiction fun hno=>hen'.2 ((k8 en hen'.1).1.2 fun k hk h=>hno ⟨k,hk,h⟩)
       obtain⟨k,hk,hkk⟩:=hex
       have hpk:p.1=k:=ydZ hK (hkey.symm.trans hkk)
       have hpm:p∈rngC (keq K) es left:=by
        rw[rngC,List.mem_filter]
        exact⟨hl.mem_iff.1 hp,List.any_eq_true.2 ⟨k,hk,(zjK hK).2 hpk⟩⟩
       have h1:=hz _ (yzF (d:=g0 (σ.put d (.tup [.v .b false]))) (f:=fun p=>g0 ⟨(d,.tup [.v .b true,svOf K p.1,svOf V p.2])::σ.sl,setN σ.hp i (.it mid gn K (some p.1) (rngD (keq K) left p.1))⟩) hpm)
       have H1:HS B S w1 L:=by
        rcases hw1 with rfl|rfl
        ·exact R.hs
        ·exact R.hs.drew
       have hh1:w1.heap=w.heap:=by rcases hw1 with rfl|rfl<;>rfl
       have hlt1:b<w1.heap.size:=by rw[hh1];exact lt_of_heap hh
       have H2:HS B S (Go.ChangeMaps.setBlock w1 b (.mapIter (some b2) ck2 (seen.push en.born) ck2)) (stR L i (.obj b (.mapIter (some b2) ck2 (seen.push en.born) ck2))):=by
        refine H1.upd k1 (by simp[Go.ChangeMaps.setBlock]) rfl rfl rfl (fun j hj hne=>?_) ?_ fun b' hb'=>.inl hb'
        ·have:j≠b:=fun e=>hne (by rw[e];rfl)
         simp[Go.ChangeMaps.setBlock,Ne.symm this]
        ·show((Go.ChangeMaps.setBlock w1 b _).heap)[b]? = _
         simp[Go.ChangeMaps.setBlock,hlt1]
       have hA1:=hA
       have R1:=R.upd1 (o':=.it mid gn K (some p.1) (rngD (keq K) left p.1)) k2 H2 ⟨b,b2,ck2,seen.push en.born,rfl,rfl,hK,_,k6,fun g2 b4 c2 es2 he=>by
        cases he
        refine⟨Nat.le_refl _,fun _=>⟨rfl,rfl,fun e4 he4=>⟨?_,fun c hc=>?_⟩⟩⟩
        ·have hkb:e4.key=en.key↔e4.born=en.born:=ywH hK hM he4 hen'.1
         rw[Array.mem_push,(k8 e4 he4).1]
         constructor
         ·rintro(h|h) k' hk'
          ·exact h k' (List.mem_filter.1 hk').1
          ·rw[hkb.2 h,hkey]
           intro h5
           have:=(List.mem_filter.1 hk').2
           rw[(zjK hK).2 (ydZ hK h5).symm]at this;cases this
         ·intro h
          by_cases h5:e4.born=en.born
          ·exact .inr h5
          ·refine .inl fun k' hk' h6=>h k' (List.mem_filter.2 ⟨hk',?_⟩) h6
           rw[Bool.not_eq_true',znX hK]
           intro h7
           exact h5 (hkb.1 (by rw[h6,h7,hkey]))
        ·cases hc
         rw[←hkey,Array.back?_push]
         exact(ywH hK hM he4 hen'.1).trans ⟨fun h=>by rw[h],fun h=>(osi h).symm⟩⟩
       refine⟨_,_,h1,R1.put (x:=.tup [.v .b true,svOf K p.1,svOf V p.2]) ⟨[.bool true,en.key,en.val],rfl,.cons (show rep .b S [.bool true] true from rfl) (.cons (zpX hpe.1) (.cons (zpX hpe.2) .nil))⟩ hd⟩
    ·exact bad hz
   ·exact bad hz
  ·exact bad hz
 ·exact bad hz
def Good(P:Program)(N0 n:Nat)(B:Bas)(c:Code){β:Type}(rn:(Ex→St→Option β)→Option β)(S:Mem)(E:List EI)(m:FM)(w:World):Prop:=
 ∀(k:Ex→St→Option β) (r:β) (Q:Exit→Act→World→Prop),rn k=some r→(∀e σ' S' E' L' m' w',k e σ'=some r→Mem.le S S'→Pin N0 E E'→Agr (zkQ c) m m'→Rel n B S' E' L' σ' m' w'→Q (exQ e) (fr n m') w')→c.wp P Q (fr n m) w
theorem zpB{α γ:Type}{o:Option α}{f:α→Option γ}{r:γ}(h:Option.bind o f=some r):∃x,o=some x∧f x=some r:=bnd h
theorem zsD(hm:P.follows .mixedOrders=true)(hτ:TEok P τ)(hΓ:CTok P Γ B):∀(c:Code) {β:Type} {σ:St} {S:Mem} {E:List EI} {L:List Res} {m:FM} {w:World},Rel n B S E L σ m w→Good P N0 n B c (β:=β) (run N0 n τ Γ η c σ) S E m w
 |.skip,_,σ,S,E,L,m,w,R,k,r,Q,h,hQ=>wp_skip (hQ .normal _ _ _ _ _ _ h (Mem.le_refl _) (Pin.refl _ _) (Agr.refl _ _) R)
 |.exit id,_,σ,S,E,L,m,w,R,k,r,Q,h,hQ=>wp_exit (hQ (.exit id) _ _ _ _ _ _ h (Mem.le_refl _) (Pin.refl _ _) (Agr.refl _ _) R)
 |.ret,_,σ,S,E,L,m,w,R,k,r,Q,h,hQ=>wp_ret (hQ .ret _ _ _ _ _ _ h (Mem.le_refl _) (Pin.refl _ _) (Agr.refl _ _) R)
 |.region id ops d,_,σ,S,E,L,m,w,R,k,r,Q,h,hQ=>by
  obtain⟨ops⟩:=ops
  cases d with
  |true=>exact ytN hm hτ hΓ R h (fun σ' S' E' L' m' w' h1 h2 h3 h4 R1=>hQ .normal _ _ _ _ _ _ h1 h2 (Pin.of h3) h4 R1)
  |false=>exact wp_region_lit (zzZ hτ hΓ (fun σ' S' E' L' m' w' h1 h2 h3 h4 R1=>hQ .normal _ _ _ _ _ _ h1 h2 (Pin.of h3) h4 R1) ops (fun _ h=>h) (Mem.le_refl _) (ELe.refl _) (Agr.refl _ _) R h)
 |.cond c a b,_,σ,S,E,L,m,w,R,k,r,Q,h,hQ=>by
  simp only[run]at h
  split at h
  ·rename_i t hc
   have hv:evO n m c = .bool t:=vB (zbM R hc)
   refine ygG hv (fun ht=>?_) (fun ht=>?_)
   ·subst ht;exact zsD hm hτ hΓ a R k r Q h (fun e σ' S' E' L' m' w' h1 h2 hP h3 R1=>hQ e σ' S' E' L' m' w' h1 h2 hP h3.l R1)
   ·subst ht;exact zsD hm hτ hΓ b R k r Q h (fun e σ' S' E' L' m' w' h1 h2 hP h3 R1=>hQ e σ' S' E' L' m' w' h1 h2 hP h3.r R1)
  ·cases h
 |.seq a b,_,σ,S,E,L,m,w,R,k,r,Q,h,hQ=>by
  have next:∀e σ' S' E' L' m' w',nx k (fun σ=>run N0 n τ Γ η b σ k) e σ'=some r→Mem.le S S'→Pin N0 E E'→Agr (zkQ a) m m'→Rel n B S' E' L' σ' m' w'→Exit.then (b.wp P Q) Q (exQ e) (fr n m') w':=fun e σ' S' E' L' m' w' h1 hS hP hA R1=>by
   cases e with
   |normal=>exact zsD hm hτ hΓ b R1 k r Q h1 (fun e σ' S' E' L' m' w' h1 h2 hP2 h3 R1=>hQ e σ' S' E' L' m' w' h1 (Mem.le_trans hS h2) (hP.trans hP2) ((Agr.l hA).trans (Agr.r h3)) R1)
   |exit i=>exact hQ (.exit i) _ _ _ _ _ _ h1 hS hP hA.l R1
   |ret=>exact hQ .ret _ _ _ _ _ _ h1 hS hP hA.l R1
  simp only[run]at h
  refine wp_seq ?_
  split at h
  ·rename_i mk kp outs hj
   obtain⟨d,h1,h2⟩:=zpB h
   obtain⟨S0,E0,L0,hS0,hE0,R0⟩:=zwQ mk R
   refine zsD hm hτ hΓ a R0 (inj N0 outs) d _ h1 fun e σ' S' E' L' m' w' h3 hS hP hA R1=>?_
   obtain⟨S2,E2,L2,σ2,hS2,hP2,R2,_,_,h4⟩:=zyE R1 (kp:=zuL (zkQ a) (zuJ σ mk) kp) (fun S'' E'' hS'' t=>ztD R0 (Mem.le_trans hS hS'') hA kp t) h3
   rw[h4]at h2
   exact next e σ2 _ _ _ _ _ h2 (Mem.le_trans hS0 (Mem.le_trans hS hS2)) ((Pin.of hE0).trans (hP.trans hP2)) hA R2
  ·exact zsD hm hτ hΓ a R _ r _ h next
 |.block id b,_,σ,S,E,L,m,w,R,k,r,Q,h,hQ=>by
  have next:∀e σ' S' E' L' m' w',blk id k e σ'=some r→Mem.le S S'→Pin N0 E E'→Agr (zkQ b) m m'→Rel n B S' E' L' σ' m' w'→Exit.inBlock id Q (exQ e) (fr n m') w':=fun e σ' S' E' L' m' w' h1 hS hP hA R1=>by
   cases e with
   |normal=>exact hQ .normal _ _ _ _ _ _ h1 hS hP hA R1
   |ret=>exact hQ .ret _ _ _ _ _ _ h1 hS hP hA R1
   |exit i=>
    simp only[blk]at h1
    cases hb:Nat.beq i id with
    |true=>
     rw[hb]at h1
     have:=Nat.eq_of_beq_eq_true hb;subst this
     exact ziQ (hQ .normal _ _ _ _ _ _ h1 hS hP hA R1)
    |false=>rw[hb]at h1;exact xcR hb (hQ (.exit i) _ _ _ _ _ _ h1 hS hP hA R1)
  simp only[run]at h
  refine wp_block ?_
  split at h
  ·rename_i mk kp outs hj
   obtain⟨d,h1,h2⟩:=zpB h
   obtain⟨S0,E0,L0,hS0,hE0,R0⟩:=zwQ mk R
   refine zsD hm hτ hΓ b R0 _ d _ h1 fun e σ' S' E' L' m' w' h3 hS hP hA R1=>?_
   have fin:∀e',inj N0 outs e' σ'=some d→Q (exQ e') (fr n m') w':=fun e' h3=>by
    obtain⟨S2,E2,L2,σ2,hS2,hP2,R2,_,_,h4⟩:=zyE R1 (kp:=zuL (zkQ b) (zuJ σ mk) kp) (fun S'' E'' hS'' t=>ztD R0 (Mem.le_trans hS hS'') hA kp t) h3
    rw[h4]at h2
    exact hQ e' σ2 _ _ _ _ _ h2 (Mem.le_trans hS0 (Mem.le_trans hS hS2)) ((Pin.of hE0).trans (hP.trans hP2)) hA R2
   cases e with
   |normal=>exact fin .normal h3
   |ret=>exact fin .ret h3
   |exit i=>
    simp only[blk]at h3
    cases hb:Nat.beq i id with
    |true=>
     rw[hb]at h3
     have:=Nat.eq_of_beq_eq_true hb;subst this
     exact ziQ (fin .normal h3)
    |false=>rw[hb]at h3;exact xcR hb (fin (.exit i) h3)
  ·exact zsD hm hτ hΓ b R _ r _ h next
 |.loop b,_,σ,S,E,L,m,w,R,k,r,Q,h,hQ=>by
  simp only[run]at h
  split at h
  ·rename_i mk s kp outs hj
   split at h
   ·rename_i s0 hs0
    obtain⟨d,h1,h2⟩:=zpB h
    obtain⟨S0,E0,L0,hS0,hE0,R0⟩:=zwQ mk R
    obtain⟨S1,E1,L1,hS1,hP1,R1⟩:=yeR R0 (fun l=>zlF l R0) hs0
    have hQ:∀e σ' S' E' L' m' w',k e σ'=some r→Mem.le S0 S'→Pin N0 E0 E'→Agr (zkQ b) m m'→Rel n B S' E' L' σ' m' w'→Q (exQ e) (fr n m') w':=fun e σ' S' E' L' m' w' h1 h2 h3 h4 h5=>hQ e σ' S' E' L' m' w' h1 (Mem.le_trans hS0 h2) ((Pin.of hE0).trans h3) h4 h5
    clear hS0 hE0 R
    generalize zuJ σ mk=σ at *
    refine xeW (fun g a w=>∃m' x S' E' L',a=fr n m'∧Mem.le S0 S'∧Pin N0 E0 E'∧Agr (zkQ b) m m'∧Rel n B S' E' L' (s.put x) m' w∧zxC (fun x=>run N0 n τ Γ η b ((s.put x).app (zuL (zkQ b) σ kp)) (nx (fun e σ=>mapO Sum.inr (inj N0 outs e σ)) fun σ=>mapO Sum.inl (s.get N0 σ))) g x=some d) FU ⟨m,s0,S1,E1,L1,rfl,hS1,hP1,Agr.refl _ _,R1,h1⟩ ?_
    rintro g a w ⟨m2,x,S2,E2,L2,rfl,hS2,hP2,hA2,R2,hit⟩
    cases g with
    |zero=>cases hit
    |succ g=>
     obtain⟨o,h3,h4⟩:=ylU hit
     refine zsD hm hτ hΓ b (R2.app (ztD R0 hS2 hA2 kp)) _ o _ h3 fun e σ' S' E' L' m' w' h5 hS3 hP3 hA3 R3=>?_
     have hSS:=Mem.le_trans hS2 hS3
     have hAA:=hA2.trans hA3
     have fin:∀e',mapO Sum.inr (inj N0 outs e' σ')=some o→Q (exQ e') (fr n m') w':=fun e' h5=>by
      obtain⟨d',h6,rfl⟩:=ztM h5
      have h7:d'=d:=by cases h4;rfl
      subst h7
      obtain⟨S4,E4,L4,σ4,hS4,hP4,R4,_,_,h8⟩:=zyE R3 (kp:=zuL (zkQ b) σ kp) (fun S'' E'' hS'' t=>ztD R0 (Mem.le_trans hSS hS'') hAA kp t) h6
      rw[h8]at h2
      exact hQ e' σ4 _ _ _ _ _ h2 (Mem.le_trans hSS hS4) ((hP2.trans hP3).trans hP4) hAA R4
     cases e with
     |normal=>
      obtain⟨x',h6,rfl⟩:=ztM h5
      obtain⟨S4,E4,L4,hS4,hP4,R4⟩:=yeR R3 (fun l=>zlF l R3) h6
      exact⟨g,Nat.lt_succ_self g,m',x',S4,E4,L4,rfl,Mem.le_trans hSS hS4,(hP2.trans hP3).trans hP4,hAA,R4,h4⟩
     |exit i=>exact fin (.exit i) h5
     |ret=>exact fin .ret h5
   ·cases h
  ·rename_i mk s kp outs hj
   split at h
   ·rename_i id ops c
    split at h
    ·rename_i d t ty pos aft l hops
     split at h
     ·rename_i s0 hs0
      obtain⟨dd,h1,h2⟩:=zpB h
      obtain⟨fuel,hrng⟩:=yuR h1
      obtain⟨S0,E0,L0,hS0,hE0,R0⟩:=zwQ mk R
      obtain⟨S1,E1,L1,hS1,hP1,R1⟩:=yeR R0 (fun l=>zlF l R0) hs0
      have hQ:∀e σ' S' E' L' m' w',k e σ'=some r→Mem.le S0 S'→Pin N0 E0 E'→Agr (zkQ (.seq (.region id ops false) c)) m m'→Rel n B S' E' L' σ' m' w'→Q (exQ e) (fr n m') w':=fun e σ' S' E' L' m' w' h1 h2 h3 h4 h5=>hQ e σ' S' E' L' m' w' h1 (Mem.le_trans hS0 h2) ((Pin.of hE0).trans h3) h4 h5
      clear hS0 hE0 R
      generalize zuJ σ mk=σ at *
      refine xeW (fun g a w=>∃m' x S' E' L',a=fr n m'∧Mem.le S0 S'∧Pin N0 E0 E'∧Agr (zkQ (.seq (.region id ops false) c)) m m'∧Rel n B S' E' L' (s.put x) m' w∧Rng (fun x=>xbF n ((s.put x).app (zuL (zkQ (.seq (.region id ops false) c)) σ kp)) d t fun σ=>steps n τ Γ ops.toList l σ fun σ=>run N0 n τ Γ η c σ (nx (fun e σ=>mapO Sum.inr (inj N0 outs e σ)) fun σ=>mapO Sum.inl (s.get N0 σ))) g x dd) fuel ⟨m,s0,S1,E1,L1,rfl,hS1,hP1,Agr.refl _ _,R1,hrng⟩ ?_
      rintro g a w ⟨m2,x,S2,E2,L2,rfl,hS2,hP2,hA2,R2,hit⟩
      cases g with
      |zero=>exact hit.elim
      |succ g=>
       have hD:∀t',hasN (zrB (⟨some d,.next (.tmp t) false,ty,pos,aft,none⟩::l)) t'=true→hasN (zkQ (.seq (.region id ops false) c)) t'=true:=fun t' ht'=>by
        show hasN (zrB ops.toList++zkQ c) t'=true
        rw[yfQ,hops,ht'];rfl
       obtain⟨ops⟩:=ops
       have hops:ops=_:=hops
       subst hops
       refine wp_seq (wp_region_lit (wl_do (zrZ rfl) (xfF (R2.app (ztD R0 hS2 hA2 kp)) (Z:=rngO (fun s'=>Rng _ g s' dd) dd) (fun h=>h) hit) ?_))
       rintro v w' ⟨σ1,L3,hy,R3⟩
       generalize hyo:(steps n τ Γ _ l σ1 fun σ=>run N0 n τ Γ η c σ (nx (fun e σ=>mapO Sum.inr (inj N0 outs e σ)) fun σ=>mapO Sum.inl (s.get N0 σ)))=o at hy
       match o,hy with
       |some y,hy2=>
        rw[zkA]
        refine zzZ hτ hΓ (D:=zkQ (.seq (.region id _ false) c)) (S0:=S2) (E0:=E2) (m0:=m2) (fun σ' S' E' L' m' w' h5 hS3 hE3 hA3 R4=>?_) l (fun t' ht'=>hD t' (yeO ht')) (Mem.le_refl _) (ELe.refl _) (Agr.put (hD d (yeC rfl))) R3 hyo
        refine zsD hm hτ hΓ c R4 _ y _ h5 fun e σ' S' E' L' m' w' h5 hS4 hP4 hA4 R4=>?_
        have hSS:=Mem.le_trans hS2 (Mem.le_trans hS3 hS4)
        have hAA:=hA2.trans (hA3.trans hA4.r)
        have hPP:=(hP2.trans (Pin.of hE3)).trans hP4
        have fin:∀e',mapO Sum.inr (inj N0 outs e' σ')=some y→Q (exQ e') (fr n m') w':=fun e' h5=>by
         obtain⟨d',h6,rfl⟩:=ztM h5
         have h7:d'=dd:=hy2
         subst h7
         obtain⟨S4,E4,L4,σ4,hS4,hP4,R4,_,_,h8⟩:=zyE R4 (kp:=zuL (zkQ (.seq (.region id _ false) c)) σ kp) (fun S'' E'' hS'' t=>ztD R0 (Mem.le_trans hSS hS'') hAA kp t) h6
         rw[h8]at h2
         exact hQ e' σ4 _ _ _ _ _ h2 (Mem.le_trans hSS hS4) (hPP.trans hP4) hAA R4
        cases e with
        |normal=>
         obtain⟨x',h6,rfl⟩:=ztM h5
         obtain⟨S4,E4,L4,hS4,hP4,R4⟩:=yeR R4 (fun l=>zlF l R4) h6
         exact⟨g,Nat.lt_succ_self g,m',x',S4,E4,L4,rfl,Mem.le_trans hSS hS4,hPP.trans hP4,hAA,R4,hy2⟩
        |exit i=>exact fin (.exit i) h5
        |ret=>exact fin .ret h5
     ·cases h
    ·cases h
   ·cases h
  ·cases h
theorem ymV{s:Sem Value}{u:Value}(h:(do pure (Next.value (←s)):Sem Next).run P w = .ok (.value u) w):s.run P w = .ok u w:=by
 rw[Sem.run_bind]at h
 cases hs:s.run P w with
 |ok v w'=>
  rw[hs]at h
  simp only[Result.andThen_ok,Sem.run_pure]at h
  injection h with h1 h2
  injection h1 with h1
  rw[h1,h2]
 |halt x w'=>rw[hs]at h;cases h
theorem xeU(hτ:TEok P τ)(R:Rel n B S E L σ m w){v:ResultVar}{x:SV}(h:resV τ σ v=some x):∃u,VR S E x u∧(resS (fr n m).tmps v).run P w = .ok u w:=by
 cases v with
 |tmp t=>
  cases h
  exact⟨_,R.sl t,ziX rfl⟩
 |cell t T=>
  simp only[resV]at h
  split at h
  ·rename_i f hT
   have h':deref σ.hp (lkS σ.sl t) f.sz (fun l=>bindS (svAt f l) some)=some x:=by
    have e1:(fun l=>bindS (svAt f l) some)=fun l=>svAt f l:=by funext l;cases svAt f l<;>rfl
    rw[e1];exact h
   obtain ⟨z, u, h1, h2, h3⟩ := ytC (dst := none) (g := none) (ty := 0) (pos := "") (aft := #[]) (a := .tmp t) (k := some) R (hτ _ _ hT) (R.sl t) h'
   cases h1
   refine⟨u,h2,?_⟩
   have h4:=ymV (h3 w R.hs)
   show(do loadVar T (←asAddr ((fr n m).tmps.getD t undef)):Sem Value).run P w=_
   rw[ymQ]
   have h5:(do loadVar T (←Instr.sureAddr (evO n m (.tmp t))):Sem Value).run P w = .ok u w:=h4
   cases hp:evO n m (.tmp t) with
   |pointer a=>
    rw[hp]at h5
    cases a with
    |none=>simp[Instr.sureAddr]at h5
    |some a=>simpa[Instr.sureAddr,asAddr]using h5
   |_=>rw[hp]at h5;simp[Instr.sureAddr]at h5
  ·cases h
theorem zzY(hτ:TEok P τ)(R:Rel n B S E L σ m w):∀{l:List ResultVar} {xs:List SV},zxY τ σ l=some xs→∃us,A2 (VR S E) xs us∧(l.mapM (resS (fr n m).tmps)).run P w = .ok us w
 |[],xs,h=>by cases h;exact⟨[],.nil,by simp⟩
 |v::l,xs,h=>by
  unfold zxY at h
  split at h
  ·rename_i x y h1 h2
   cases h
   obtain⟨u,h3,h4⟩:=xeU hτ R h1
   obtain⟨us,h5,h6⟩:=zzY hτ R h2
   exact⟨u::us,.cons h3 h5,by simp only[List.mapM_cons,Sem.run_bind,h4,Result.andThen_ok,h6,Sem.run_pure]⟩
  ·cases h
theorem yoL:∀{l:List Ty} {us:LV} {x:zcZ l},repA S l us x→us.length=l.length
 |[],us,_,h=>by have:us=[]:=h;subst this;rfl
 |[_],_,_,⟨_,e,_⟩=>by rw[e];rfl
 |_::t'::l,_,_,⟨_,_,e,_,h⟩=>by rw[e];simp[yoL h]
theorem xfN{l:List Ty}{us:LV}{x:zcZ l}(h:repA S l us x):repR S l (if h:us.toArray.size=1 then us.toArray[0]else .tuple us.toArray) x:=by
 match l,x,h with
 |[],x,h=>have:us=[]:=h;subst this;exact⟨[],rfl,rfl⟩
 |[t],x,⟨u,e,h1⟩=>subst e;exact h1
 |t::t'::l,x,h=>
  have hl:=yoL h
  rw[dif_neg (by simp at hl ⊢;omega)]
  exact⟨us,rfl,h⟩
theorem yxW:∀{xs:List SV} {us:LV} (i t:Nat),A2 (VR S E) xs us→VR S E (lkS (argS i xs) t) (look (argm us i) t)
 |_,_,i,t,.nil=>trivial
 |_,_,i,t,.cons a r=>by
  unfold argS lkS argm look
  cases Nat.beq i t with
  |true=>exact a
  |false=>exact yxW (i+1) t r
theorem yiU:∀(us:LV) (i t:Nat),look (argm us i) t=if i≤t then us.getD (t-i) undef else undef
 |[],i,t=>by simp[argm,look]
 |u::us,i,t=>by
  unfold argm look
  rw[yiU us (i+1) t]
  cases hb:Nat.beq i t with
  |true=>
   have:=Nat.eq_of_beq_eq_true hb;subst this
   simp
  |false=>
   have hne:i≠t:=fun e=>by subst e;rw[Nat.beq_refl]at hb;cases hb
   simp only[cond_false]
   by_cases h:i≤t
   ·rw[if_pos h,if_pos (by omega),show t-i=(t-(i+1))+1 by omega,List.getD_cons_succ]
   ·rw[if_neg h,if_neg (by omega)]
theorem ygF:∀(ash:List Sh) (l:List SV),(putL ash l).1.length=ash.length
 |[],_=>rfl
 |a::ash,l=>by simp only[putL,List.length_cons,ygF ash]
theorem yaF:∀{xs:List SV} {i t:Nat},i+xs.length≤t→lkS (argS i xs) t = .undef
 |[],_,_,_=>rfl
 |x::xs,i,t,h=>by
  simp only[List.length_cons]at h
  unfold argS lkS
  have:Nat.beq i t=false:=by rw[zmP];simp;omega
  rw[this]
  exact yaF (by omega)
theorem xbV{G:List (Nat×Obj)}{S0:Mem}{w0:World}(hG:GS G S0)(hS:Sub S0 w0):GB G ⟨S0,[],w0⟩:=fun p hp=>⟨(Array.getElem?_eq_some_iff.1 (hS _ _ (hG p hp))).1,by simp,hG p hp⟩
theorem gb_in{G:List (Nat×Obj)}{B:Bas}{S0:Mem}{w0:World}{L0:List Res}(hG:GS G S0)(H:HS B S0 w0 L0):GB G ⟨S0,zbJ L0,w0⟩:=fun p hp=>by
 refine⟨(Array.getElem?_eq_some_iff.1 (H.sub _ _ (hG p hp))).1,fun h=>?_,hG p hp⟩
 obtain⟨k,r,h1,h2⟩:=zdF.1 h
 have:=(H.old k r _ h1 h2).2
 rw[hG p hp]at this;cases this
theorem fn_ok{G:List (Nat×Obj)}{f:FuncId}{fn:Func}{ats:List Sh}{rts:List Ty}(hm:P.follows .mixedOrders=true)(hτ:TEok P τ)(hΓ:∀B,GB G B→CTok P Γ B)(hf:P.funcs[f]? = some fn)(hfn:IsFn P f)(hl:Nat.ble ats.length fn.ntmps=true):PCok P G f ⟨ats,rts,fnP τ Γ η fn ats rts,false⟩:=by
 refine⟨hfn,fun S0 w0 us a y hG hS ha hy=>?_⟩
 have hy:fnP τ Γ η fn ats rts a=some y:=hy
 have ha:A2 (VR S0 []) (putL ats (zkP _ a)).1 us:=ha
 have hul:us.length=ats.length:=by rw[←ha.len,ygF]
 unfold fnP at hy
 split at hy
 ·cases hy
 ·rename_i c hb
  refine enter hf hb rfl (by rw[hul];exact hl) ?_
  have R0:Rel fn.ntmps ⟨S0,[],w0⟩ S0 [] [] ⟨argS 0 (putL ats (zkP _ a)).1,[]⟩ (argm us 0) w0:=by
   refine⟨HS.start hS,rfl,rfl,fun i o h=>by simp at h,fun t=>?_⟩
   show VR S0 [] (lkS (argS 0 (putL ats (zkP _ a)).1) t) (bif Nat.blt t fn.ntmps then look (argm us 0) t else undef)
   cases ht:Nat.blt t fn.ntmps with
   |true=>exact yxW 0 t ha
   |false=>
    rw[zjE]at ht
    have h1:=of_decide_eq_false ht
    have h2:=Nat.le_of_ble_eq_true hl
    rw[yaF (by rw[ygF];omega)]
    trivial
  refine zsD hm hτ (hΓ _ (xbV hG hS)) c R0 (fin τ fn rts) y _ hy fun e σ' S' E' L' m' w' h1 _ _ _ R1=>?_
  have key:∀(_:(match zxY τ σ' fn.results.toList with
    |some l=>match zxY τ (frzL σ' (l.flatMap owns)) fn.results.toList with
     |some l=>ygA [] rts l
     |none=>none
    |none=>none)=some y),(fr fn.ntmps m').defers=[]∧∃v,(results fn (fr fn.ntmps m').tmps).run P w' = .ok v w'∧∃v',Ending.returned v = .returned v'∧Ext w0 w'∧repR (gr S0 w0 w') rts v' y:=fun h1=>by
   split at h1
   ·rename_i l hl1
    split at h1
    ·rename_i l2 hl2
     obtain⟨S2,E2,L2,_,_,R2⟩:=zlF (l.flatMap owns) R1
     obtain⟨vs,h3,h4⟩:=zzY (P:=P) hτ R2 hl2
     have h5:=yqB (S2:=gr S0 w0 w') R2.hs.gr zeR rts h1 h3
     refine⟨rfl,_,?_,_,rfl,R2.hs.toExt,xfN h5⟩
     rw[zqI,Array.mapM_eq_mapM_toList]
     simp only[Sem.run_bind,Sem.run_map,h4,Result.andThen_ok,Sem.run_pure]
    ·cases h1
   ·cases h1
  cases e with
  |normal=>
   obtain⟨h2,v,h3,v',h4,h5,h6⟩:=key h1
   cases h4
   exact⟨h2,v,h3,h5,v,rfl,h6,fun h=>by cases h⟩
  |ret=>
   obtain⟨h2,v,h3,v',h4,h5,h6⟩:=key h1
   cases h4
   exact⟨h2,v,h3,h5,v,rfl,h6,fun h=>by cases h⟩
  |exit i=>cases h1
theorem yoF:∀(us:LV) (pre:LV),ycN (fun t=>(pre++us).getD t undef) pre.length us.length=us
 |[],_=>rfl
 |u::us,pre=>by
  have h1:=yoF us (pre++[u])
  simp only[List.length_append,List.length_singleton,List.append_assoc,List.singleton_append]at h1
  simp only[List.length_cons,ycN,h1]
  congr 1
  simp
theorem yxG(us:LV):ycN (fun t=>us.getD t undef) 0 us.length=us:=yoF us []
theorem xbI(us:LV):(if h:us.toArray.size=1 then us.toArray[0]else .tuple us.toArray)=ydG us:=by
 match us with
 |[]=>rfl
 |[u]=>rfl
 |u::u'::us=>rw[dif_neg (by simp)];rfl
theorem ykX:∀{l:List ResultVar} {xs:List SV},zxY τ σ l=some xs→xs.length=l.length
 |[],_,h=>by cases h;rfl
 |v::l,_,h=>by
  unfold zxY at h
  split at h
  ·rename_i h2;cases h;simp[ykX h2]
  ·cases h
theorem ynE{f:FuncId}{fn:Func}{c:Code}{N0 nr:Nat}{outs:List (Option Nat×Shp)}{S0:Mem}{w0:World}{us:LV}{E0:List EI}{L0:List Res}{σ0:St}{d:DS outs}(hm:P.follows .mixedOrders=true)(hτ:TEok P τ)(hΓ:CTok P Γ ⟨S0,zbJ L0,w0⟩)(hf:P.funcs[f]? = some fn)(hb:fn.body=some c)(hl:us.length≤fn.ntmps)(hr:Nat.beq fn.results.toList.length nr=true)
  (R:RelV ⟨S0,zbJ L0,w0⟩ S0 E0 L0 σ0 (fun t=>us.getD t undef) w0) (hy:run N0 fn.ntmps τ Γ η c σ0 (finS τ fn N0 outs)=some d):
  Calls P f us.toArray w0 fun e w'=>∃v,e = .returned v∧∃S' E' L' σo V',(∀{γ:Type} (k:Ex→St→Option γ),out [] outs d k=k .normal σo)∧Mem.le S0 S'∧Pin N0 E0 E'∧RelV ⟨S0,zbJ L0,w0⟩ S' E' L' σo V' w'∧Ver0 σo.hp∧N0≤σo.hp.length∧v=ydG (ycN V' 0 nr):=by
 refine enter hf hb rfl (Nat.ble_eq_true_of_le hl) ?_
 have R0:Rel fn.ntmps ⟨S0,zbJ L0,w0⟩ S0 E0 L0 σ0 (argm us 0) w0:=by
  refine⟨R.hs,R.lL,R.lE,R.obj,fun t=>?_⟩
  have h1:=R.sl t
  show VR S0 E0 (lkS σ0.sl t) (bif Nat.blt t fn.ntmps then look (argm us 0) t else undef)
  cases ht:Nat.blt t fn.ntmps with
  |true=>
   have:=yiU us 0 t
   rw[if_pos (Nat.zero_le t)]at this
   rw[cond_true,this];exact h1
  |false=>
   rw[zjE]at ht
   have h2:=of_decide_eq_false ht
   rw[cond_false]
   have h3:us.getD t undef=undef:=by rw[List.getD_eq_getElem?_getD,List.getElem?_eq_none (by omega)];rfl
   rw[←h3];exact h1
 refine zsD hm hτ hΓ c R0 (finS τ fn N0 outs) d _ hy fun e σ' S' E' L' m' w' h1 hS hP _ R1=>?_
 have key:∀(_:(match zxY τ σ' fn.results.toList with
   |some l=>inj N0 outs .normal ⟨argS 0 l,σ'.hp⟩
   |none=>none)=some d),(fr fn.ntmps m').defers=[]∧∃v,(results fn (fr fn.ntmps m').tmps).run P w' = .ok v w'∧∃v',Ending.returned v = .returned v'∧∃S' E' L' σo V',(∀{γ:Type} (k:Ex→St→Option γ),out [] outs d k=k .normal σo)∧Mem.le S0 S'∧Pin N0 E0 E'∧RelV ⟨S0,zbJ L0,w0⟩ S' E' L' σo V' w'∧Ver0 σo.hp∧N0≤σo.hp.length∧v'=ydG (ycN V' 0 nr):=fun h1=>by
  split at h1
  ·rename_i l hl1
   obtain⟨vs,h3,h4⟩:=zzY (P:=P) hτ R1 hl1
   have R2:RelV ⟨S0,zbJ L0,w0⟩ S' E' L' ⟨argS 0 l,σ'.hp⟩ (fun t=>vs.getD t undef) w':=⟨R1.hs,R1.lL,R1.lE,R1.obj,fun t=>by
    have:=yhF 0 t h3
    rw[if_pos (Nat.zero_le t)]at this
    exact this⟩
   obtain⟨S2,E2,L2,σ2,hS2,hP2,R3,hv,hn,h5⟩:=zyE R2 (kp:=[]) (fun _ _ _ _=>trivial) h1
   refine⟨rfl,ydG vs,?_,ydG vs,rfl,S2,E2,L2,σ2,_,h5,Mem.le_trans hS hS2,hP.trans hP2,R3,hv,hn,?_⟩
   ·rw[zqI,Array.mapM_eq_mapM_toList]
    simp only[Sem.run_bind,Sem.run_map,h4,Result.andThen_ok,Sem.run_pure,←xbI]
   ·have h6:vs.length=nr:=by rw[←h3.len,ykX hl1];exact Nat.eq_of_beq_eq_true hr
    rw[←h6,yxG]
  ·cases h1
 cases e with
 |normal=>
  obtain⟨h2,v,h3,v',h4,h5⟩:=key h1
  cases h4
  exact⟨h2,v,h3,v,rfl,h5⟩
 |ret=>
  obtain⟨h2,v,h3,v',h4,h5⟩:=key h1
  cases h4
  exact⟨h2,v,h3,v,rfl,h5⟩
 |exit i=>cases h1
theorem fnS_ok{G:List (Nat×Obj)}{f:FuncId}{fn:Func}{I:Shp}{nr:Nat}{outs:List (Option Nat×Shp)}(hm:P.follows .mixedOrders=true)(hτ:TEok P τ)(hΓ:∀B,GB G B→CTok P Γ B)(hf:P.funcs[f]? = some fn)(hfn:IsFn P f)(hl:Nat.ble I.sl.length fn.ntmps=true)(hr:Nat.beq fn.results.toList.length nr=true):SCok P G f ⟨I,nr,outs,fnS τ Γ η fn I outs⟩:=by
 refine⟨hfn,fun S0 w0 us E0 L0 a d hG hul R hy=>?_⟩
 have hy:fnS τ Γ η fn I outs a=some d:=hy
 have hul:us.length=I.sl.length:=hul
 unfold fnS at hy
 split at hy
 ·cases hy
 ·rename_i c hb
  exact ynE hm hτ (hΓ _ (gb_in hG R.hs)) hf hb (by rw[hul];exact Nat.le_of_ble_eq_true hl) hr R hy
end
def PL(P:Program)(G:List (Nat×Obj)):List (Nat×PC)→Prop
 |[]=>True
 |x::l=>PCok P G x.1 x.2∧PL P G l
def SL(P:Program)(G:List (Nat×Obj)):List (Nat×SC)→Prop
 |[]=>True
 |x::l=>SCok P G x.1 x.2∧SL P G l
theorem PL.at{P:Program}{G:List (Nat×Obj)}:∀{l:List (Nat×PC)},PL P G l→∀f c,pcAt l f=some c→PCok P G f c
 |[],_,f,c,h=>by cases h
 |(d,x)::l,⟨h1,h2⟩,f,c,h=>by
  unfold pcAt at h
  cases hb:Nat.beq d f with
  |true=>rw[hb]at h;cases h;rw[←Nat.eq_of_beq_eq_true hb];exact h1
  |false=>rw[hb]at h;exact PL.at h2 f c h
theorem SL.at{P:Program}{G:List (Nat×Obj)}:∀{l:List (Nat×SC)},SL P G l→∀f c,c∈scAt l f→SCok P G f c
 |[],_,f,c,h=>by cases h
 |(d,x)::l,⟨h1,h2⟩,f,c,h=>by
  unfold scAt at h
  cases hb:Nat.beq d f with
  |true=>
   rw[hb]at h
   rcases List.mem_cons.1 h with rfl|h
   ·rw[←Nat.eq_of_beq_eq_true hb];exact h1
   ·exact SL.at h2 f c h
  |false=>rw[hb]at h;exact SL.at h2 f c h
theorem ctok{P:Program}{G:List (Nat×Obj)}{pc:List (Nat×PC)}{sc:List (Nat×SC)}{k:Bool}{fm:List (Nat×List FSh)}(h1:PL P G pc)(h2:SL P G sc):∀B,GB G B→CTok P ⟨pc,sc,k,fm⟩ B:=fun _B hG=>
 ⟨fun f c h=>⟨(h1.at f c h).fn,fun S w us a y hA=>(h1.at f c h).ok S w us a y (hA.gs hG)⟩,fun f c h=>⟨(h2.at f c h).fn,fun S w us E L a d hA=>(h2.at f c h).ok S w us E L a d (hA.gs hG)⟩⟩
theorem ygS{P:Program}{G:List (Nat×Obj)}{τ:TE}{Γ:CT}{η:HT}{f:FuncId}{fn:Func}{c:PC}(hm:P.follows .mixedOrders=true)(hτ:TEok P τ)(hΓ:∀B,GB G B→CTok P Γ B)(hf:P.funcs[f]? = some fn)(hfn:IsFn P f)(hl:Nat.ble c.ash.length fn.ntmps=true)(hc:c.cl=false)(he:fnP τ Γ η fn c.ash c.rts=c.p):PCok P G f c:=by
 have h:=fn_ok (η:=η) (rts:=c.rts) hm hτ hΓ hf hfn hl
 rw[he,←hc]at h
 exact h
theorem yrC{P:Program}{G:List (Nat×Obj)}{τ:TE}{Γ:CT}{η:HT}{f:FuncId}{fn:Func}{c:SC}(hm:P.follows .mixedOrders=true)(hτ:TEok P τ)(hΓ:∀B,GB G B→CTok P Γ B)(hf:P.funcs[f]? = some fn)(hfn:IsFn P f)(hl:Nat.ble c.I.sl.length fn.ntmps=true)(hr:Nat.beq fn.results.toList.length c.nr=true)(he:fnS τ Γ η fn c.I c.outs=c.p):SCok P G f c:=by
 have h:=fnS_ok (η:=η) (outs:=c.outs) hm hτ hΓ hf hfn hl hr
 rw[he]at h
 exact h
def keqS(x y:Bs):Bool:=x==y
def kltS(x y:Bs):Bool:=Op.bytesLess x y
abbrev hS:Sh:=.h .s
abbrev hI:Sh:=.h (.i .i64)
abbrev hB:Sh:=.h .b
def scal:Ty→Bool
 |.i _=>true
 |.b=>true
 |.s=>true
 |_=>false
def encV:(t:Ty)→den t→Value
 |.i k,x=>.int k (toI k x)
 |.b,x=>.bool x
 |.s,x=>str x
 |_,_=>undef
def encL:(l:List Ty)→zcZ l→LV
 |[],_=>[]
 |[t],x=>[encV t x]
 |t::t'::l,x=>encV t x.1::encL (t'::l) x.2
def encR(l:List Ty)(x:zcZ l):Value:=match l,x with
 |[t],x=>encV t x
 |l,x=>.tuple (encL l x).toArray
section
variable {S:Mem}{E:List EI}{P:Program}{G:List (Nat×Obj)}{f:FuncId}
theorem zqB:∀{t:Ty} {x:den t} {u:Value},scal t=true→VR S E (svOf t x) u→u=encV t x
 |.i k,x,u,_,h=>by
  have h:[u]=[Value.int k (toI k x)]:=h
  exact(List.cons.inj h).1
 |.b,x,u,_,h=>by
  have h:[u]=[Value.bool x]:=h
  exact(List.cons.inj h).1
 |.s,x,u,_,h=>by
  have h:[u]=[str x]:=h
  exact(List.cons.inj h).1
theorem yhA:∀{t:Ty} {x:den t},scal t=true→rep1 t S (encV t x) x
 |.i _,_,_=>rfl
 |.b,_,_=>rfl
 |.s,_,_=>rfl
theorem ypQ:∀{l:List Ty} {x:zcZ l},l.all scal=true→repA S l (encL l x) x
 |[],_,_=>rfl
 |[t],x,h=>⟨_,rfl,yhA (by simpa using h)⟩
 |t::t'::l,x,h=>⟨_,_,rfl,yhA (by simp at h;exact h.1),ypQ (by simp at h ⊢;exact h.2)⟩
theorem zvY{l:List Ty}{x:zcZ l}(h:l.all scal=true):repR S l (encR l x) x:=match l,x,h with
 |[t],x,h=>show rep1 t S (encV t x) x from yhA (by simpa using h)
 |[],_,_=>⟨[],rfl,rfl⟩
 |t::t'::l,x,h=>⟨_,rfl,ypQ h⟩
theorem pc1{t1:Ty}{rts:List Ty}{p:den t1→Option (zcZ rts)}(h1:scal t1=true)(hr:rts.all scal=true)(hfn:IsFn P f)
  (h:∀S w x y,GS G S→Sub S w→p x=some y→Calls P f #[encV t1 x] w fun e w'=>e = .returned (encR rts y)∧Ext w w'):
  PCok P G f ⟨[.h t1],rts,p,false⟩:=by
 refine⟨hfn,fun S0 w0 us x y hG hS ha hy=>?_⟩
 have ha:A2 (VR S0 []) [svOf t1 x] us:=ha
 cases ha with
 |cons q1 q2=>
  cases q2
  rw[zqB h1 q1]
  exact(h S0 w0 x y hG hS hy).mono fun e w' ⟨he,hx⟩=>⟨hx,_,he,zvY hr,fun h=>by cases h⟩
theorem pc2{t1 t2:Ty}{rts:List Ty}{p:den t1→den t2→Option (zcZ rts)}(h1:scal t1=true)(h2:scal t2=true)(hr:rts.all scal=true)(hfn:IsFn P f)
  (h:∀S w x1 x2 y,GS G S→Sub S w→p x1 x2=some y→Calls P f #[encV t1 x1,encV t2 x2] w fun e w'=>e = .returned (encR rts y)∧Ext w w'):
  PCok P G f ⟨[.h t1,.h t2],rts,fun(x:den t1×den t2)=>p x.1 x.2,false⟩:=by
 refine⟨hfn,fun S0 w0 us (x:den t1×den t2) y hG hS ha hy=>?_⟩
 have ha:A2 (VR S0 []) [svOf t1 x.1,svOf t2 x.2] us:=ha
 cases ha with
 |cons q1 q2=>
  cases q2 with
  |cons q3 q4=>
   cases q4
   rw[zqB h1 q1,zqB h2 q3]
   exact(h S0 w0 x.1 x.2 y hG hS hy).mono fun e w' ⟨he,hx⟩=>⟨hx,_,he,zvY hr,fun h=>by cases h⟩
end
end Go.Proofs.YtmkomlbiaebddaaGreatDoor.Am
namespace Go.Proofs.YtmkomlbiaebddaaGreatDoor
open Go Go.RowKit
def decF:Nat→Nat→Bs
 |0,_=>[]
 |f+1,u=>bif Nat.blt u 10 then [UInt8.ofNat (48+u)]else decF f (u/10)++[UInt8.ofNat (48+u%10)]
theorem yfI:∀(f u:Nat),u<10^f→0<f→decF f u=Lib.decDigits u
 |0,_,_,h=>absurd h (Nat.lt_irrefl 0)
 |f+1,u,h,_=>by
  rw[Lib.decDigits]
  unfold decF
  by_cases hu:u<10
  ·rw[show Nat.blt u 10=true by rw[zjE];simpa using hu,dif_pos hu];rfl
  ·rw[show Nat.blt u 10=false by rw[zjE];simpa using hu,dif_neg hu]
   have hf:0<f:=by
    rcases Nat.eq_zero_or_pos f with rfl|hf
    ·rw[Nat.zero_add,Nat.pow_one]at h;omega
    ·exact hf
   rw[yfI f (u/10) (by rw[Nat.pow_succ]at h;omega) hf];rfl
def ydE(n:Int):Bs:=bif decide (n<0)then 45::decF 20 n.natAbs else decF 20 n.toNat
def ydF(n:Int):Option Bs:=bif decide (-9223372036854775808≤n)&&decide (n≤9223372036854775807)then some (ydE n)else none
theorem yzS{n:Int}(h0:-9223372036854775808≤n)(h1:n≤9223372036854775807):ydE n=Lib.itoa n:=by
 unfold ydE Lib.itoa
 by_cases hn:n<0
 ·rw[if_pos hn,decide_eq_true hn,cond_true,yfI _ _ (by omega) (by omega)]
 ·rw[if_neg hn,decide_eq_false hn,cond_false,yfI _ _ (by omega) (by omega)]
theorem GV.tab {S : Mem} {w : World} (h : GV S) (hS : Sub S w) : Lib.TabIs Tryz.prog w "internal/strconv.uint64pow10" .u64 Lib.pow10Tab := by
 obtain⟨t,fz,h⟩:=h.tb
 have hg : Tryz.prog.globalNamed "internal/strconv.uint64pow10" = some 1 := by kernel_rfl
 unfold Lib.TabIs World.var?
 rw[hg,Option.bind_some,hS _ _ h]
 rfl
theorem xdN{S:Mem}{w:World}(hS:Sub S w)(hG:GV S){x0:Int}{r:Bs}(hF:ydF x0=some r):
  Calls Tryz.prog 39 #[.int .i64 x0] w fun e w'=>e = .returned (str r)∧Ext w w':=by
 unfold ydF at hF
 obtain⟨h,hF⟩:=Am.zaF hF
 simp only[Bool.and_eq_true,decide_eq_true_eq]at h
 cases hF
 refine(Tryz.strconv_Itoa x0 h.1 h.2 w (hG.tab hS)).mono ?_
 rintro _ w' ⟨rfl,k,os,rfl⟩
 rw[yzS h.1 h.2]
 exact⟨rfl,⟨rfl,rfl,rfl,by show w.heap.size≤(w.heap++os).size;rw[Array.size_append];omega,fun j hj=>by show(w.heap++os)[j]? = _;rw[Array.getElem?_append_left hj]⟩⟩
def yiR(s cs:Bs):Option Bs:=bif decide (s.length≤9223372036854775807)&&decide (cs.length<4294967281)&&cs.all (fun b=>decide (b.toNat<128))then some (Lib.trimS s cs)else none
theorem Trim_c{S:Mem}{w:World}(_:Sub S w){x0 x1 r:Bs}(hF:yiR x0 x1=some r):
  Calls Tryz.prog 109 #[str x0,str x1] w fun e w'=>e = .returned (str r)∧Ext w w':=by
 unfold yiR at hF
 obtain⟨h,hF⟩:=Am.zaF hF
 simp only[Bool.and_eq_true,decide_eq_true_eq]at h
 cases hF
 exact Any.strings_Trim_laid Tryz.lays160 (by kernel_rfl) ⟨x0.toArray⟩ ⟨x1.toArray⟩ w (by rw[ziG];exact h.1.1) (by rw[ziG];exact h.1.2) (fun j b hj=>by
  have:=List.all_eq_true.1 h.2 b (List.mem_of_getElem? hj)
  simpa using this)
def cutP(s sep:Bs):Option (Bs×Bs×Bool):=bif decide (s.length<4294967281)then some (Lib.cut s sep)else none
theorem Cut_c{S:Mem}{w:World}(hS:Sub S w)(hG:GV S){x0 x1:Bs}{r:Bs×Bs×Bool}(hF:cutP x0 x1=some r):
  Calls Tryz.prog 106 #[str x0,str x1] w fun e w'=>e = .returned (.tuple #[str (r.1),str (r.2.1),.bool (r.2.2)])∧Ext w w':=by
 unfold cutP at hF
 obtain⟨h,hF⟩:=Am.zaF hF
 simp only[decide_eq_true_eq]at h
 cases hF
 obtain⟨m,hm⟩:=hG.cell hS
 refine(Tryz.strings_Cut ⟨x0.toArray⟩ ⟨x1.toArray⟩ m w (by rw[ziG];exact h) hm).mono ?_
 rintro _ w' ⟨rfl,n,rfl⟩
 exact⟨rfl,rfl,rfl,rfl,Nat.le_refl _,fun _ _=>rfl⟩
def yzU(s:Bs):Option (Int×Bool):=bif decide (s.length≤9223372036854775806)then(match Lib.atoiAll s with
 |.ok v=>some (v,false)
 |_=>none)else none
theorem Atoi_c{S:Mem}{w:World}(_:Sub S w){x0:Bs}{r:Int×Bool}(hF:yzU x0=some r):
  r.2=false∧Calls Tryz.prog 110 #[str x0] w fun e w'=>e = .returned (.tuple #[.int .i64 r.1,.nilIface])∧Ext w w':=by
 unfold yzU at hF
 obtain⟨h,hF⟩:=Am.zaF hF
 simp only[decide_eq_true_eq]at h
 split at hF
 ·rename_i v hv
  cases hF
  refine⟨rfl,(Tryz.strconv_Atoi_ok ⟨x0.toArray⟩ (by rw[ziG];exact h) v hv w).mono ?_⟩
  rintro _ w' ⟨rfl,rfl|⟨t,rfl⟩⟩
  ·exact⟨rfl,Ext.refl _⟩
  ·exact⟨rfl,⟨rfl,rfl,rfl,by rw[Lib.bytesWorld_size];omega,fun j hj=>Lib.bytesWorld_at_old w _ _ j hj⟩⟩
 ·cases hF
section
attribute [local irreducible] wpList wpT Code.wp Calls Code.rounds
variable {S:Mem}{w:World}
theorem to9:TOne Tryz.prog 9:=⟨fun _=>by kernel_rfl,fun _=>by kernel_rfl⟩
theorem to100:TOne Tryz.prog 100:=⟨fun _=>by kernel_rfl,fun _=>by kernel_rfl⟩
theorem tz123:yfJ Tryz.prog 123 (.agg #[.pointer none,.slice none 0 0]):=fun _=>by kernel_rfl
theorem u41:Tryz.prog.underlying 41=some (.slice 9):=by kernel_rfl
theorem is39:IsFn Tryz.prog 39:=isFn Tryz.func39 (by kernel_rfl) (by kernel_rfl)
theorem is89:IsFn Tryz.prog 89:=isFn Tryz.func89 (by kernel_rfl) (by kernel_rfl)
theorem is90:IsFn Tryz.prog 90:=isFn Tryz.func90 (by kernel_rfl) (by kernel_rfl)
theorem is117:IsFn Tryz.prog 117:=isFn Tryz.func117 (by kernel_rfl) (by kernel_rfl)
theorem ytR:ytX Tryz.prog 123 1 1:=fun _ _ _=>by kernel_rfl
theorem tsz9:TSz Tryz.prog 9 1:=fun _=>by kernel_rfl
theorem tsz100:TSz Tryz.prog 100 1:=fun _=>by kernel_rfl
def zeT(x0:Bs)(x1:Bs):Option (Int×Bs):=
 Option.bind (zjJ x0) fun y1=>Option.bind (app y1 x1) fun y2=>some ((((x1).length:Int),y2))
theorem ztK{b0_:Nat}{x0:Bs}{pv1:Value}{pcs1 prs1:LV}{pa1:Value}(H:HS ⟨S,zbJ [.blk b0_ (([pa1]++([pv1]))) 123,.osl (pv1) (x0).length 1 pcs1 prs1 5],w⟩ S w [.blk b0_ (([pa1]++([pv1]))) 123,.osl (pv1) (x0).length 1 pcs1 prs1 5])(pg1:RL S pcs1 x0)(pg2:BA b0_ pa1){x1:Bs}{r:Int×Bs}(hF:zeT x0 x1=some r):
  Calls Tryz.prog 89 #[.pointer (some ⟨b0_,0,none⟩),str (x1)] w fun e w'=>∃(S2:Mem) (pv4:Value) (pcs4 prs4:LV) (pa4:Value),e = .returned (.tuple #[.int .i64 (r.1),.nilIface])∧HS ⟨S,zbJ [.blk b0_ (([pa1]++([pv1]))) 123,.osl (pv1) (x0).length 1 pcs1 prs1 5],w⟩ S2 w' [.blk b0_ (([pa4]++([pv4]))) 123,.osl (pv4) (r.2).length 1 pcs4 prs4 5]∧RL S2 pcs4 r.2∧BA b0_ pa4:=by
 refine enter (n:=19) Tryz.func89 rfl rfl rfl ?_
 unfold zeT at hF
 refine sr ?_;intro K1 hK1
 refine p_as (v:=.int .i64 (0)) rfl ?_
 refine p_as (v:=.nilIface) rfl ?_
 refine xk hK1 ?_;clear hK1
 refine sr ?_;intro K2 hK2
 refine p_mv (v:=.pointer (some ⟨b0_,0,none⟩)) rfl ?_
 obtain⟨y1,e1,hF⟩:=bnd hF
 refine zeX (l:=[.pointer (some ⟨b0_,0,none⟩)]) is117 rfl ?_
 refine(zvJ (H.hand [0,1] rfl) pg1 pg2 e1).mono ?_;rintro _ w1 ⟨S1,pv2,pcs2,prs2,pa2,rfl,H2,pg3,pg4⟩
 obtain⟨H1,hle1⟩:=H.frame [0,1] [] rfl H2;clear H H2;have H:=H1;clear H1
 replace H:HS ⟨S,zbJ [.blk b0_ (([pa1]++([pv1]))) 123,.osl (pv1) (x0).length 1 pcs1 prs1 5],w⟩ S1 w1 [.blk b0_ (([pa2]++([pv2]))) 123,.osl (pv2) (y1).length 1 pcs2 prs2 5]:=H
 refine xk hK2 ?_;clear hK2
 refine sr ?_;intro K3 hK3
 refine p_mv (v:=.pointer (some ⟨b0_,0,none⟩)) rfl ?_
 refine p_mv (v:=.pointer (some ⟨b0_,0,none⟩)) rfl ?_
 refine zaC (zkI rfl) ?_
 refine zaC (zmN ytR rfl) ?_
 refine zaC (zfF (v:=pv2) to100 H rfl (k:=0) rfl rfl) ?_
 refine p_mv (v:=str (x1)) rfl ?_
 obtain⟨y2,e2,hF⟩:=bnd hF
 refine zxE (ysI (k:=1) (l:=x1) znF u9 H rfl rfl pg3 rfl e2) ?_;clear H;rintro w2 v1 ⟨cs1,rs1,H,g1⟩
 replace H:HS ⟨S,zbJ [.blk b0_ (([pa1]++([pv1]))) 123,.osl (pv1) (x0).length 1 pcs1 prs1 5],w⟩ S1 w2 [.blk b0_ (([pa2]++([pv2]))) 123,.osl (v1) (y2).length 1 cs1 rs1 5]:=H
 refine zaC (zkI rfl) ?_
 refine zaC (zmN ytR rfl) ?_
 refine zyG (zlQ (k:=0) (v:=v1) (l:=[v1]) tsz100 H rfl rfl rfl (cells_one (HS.ownOne H (k:=1) rfl)) rfl (fun u hu=>by rw[List.mem_singleton]at hu;rw[hu];exact HS.ownOne H (k:=1) rfl) rfl) ?_;clear H;intro w3 H
 replace H:HS ⟨S,zbJ [.blk b0_ (([pa1]++([pv1]))) 123,.osl (pv1) (x0).length 1 pcs1 prs1 5],w⟩ S1 w3 [.blk b0_ (([pa2]++([v1]))) 123,.osl (v1) (y2).length 1 cs1 rs1 5]:=H
 refine xk hK3 ?_;clear hK3
 refine sr ?_;intro K4 hK4
 refine p_mv (v:=str (x1)) rfl ?_
 refine zaC (zqM (N:=(x1).length) u9 rfl rfl) ?_
 refine p_as (v:=.int .i64 (((x1).length:Int))) rfl ?_
 refine p_as (v:=.nilIface) rfl ?_
 refine xk hK4 ?_;clear hK4
 refine wp_ret ?_
 obtain rfl:=osi hF
 refine e_2 rfl (ziX (v:=.int .i64 (((x1).length:Int))) rfl) (ziX (v:=.nilIface) rfl) ?_
 replace H:HS ⟨S,zbJ [.blk b0_ (([pa1]++([pv1]))) 123,.osl (pv1) (x0).length 1 pcs1 prs1 5],w⟩ S1 w3 [.blk b0_ (([pa2]++([v1]))) 123,.osl (v1) (y2).length 1 cs1 rs1 5]:=H
 exact⟨_,_,_,_,_,rfl,H,g1,pg4⟩
def zgK(x0:List Bs)(s1:Int×Bs):Option ((Int×Bs)⊕(Bs)):=
 bif decide (s1.1<((x0).length:Int))then(Option.bind (idx x0 s1.1) fun y1=>Option.bind (ydF ((y1).length:Int)) fun y2=>Option.bind (app y2 ([58]:Bs)) fun y3=>Option.bind (app y3 y1) fun y4=>Option.bind (zeT s1.2 y4) fun y5=>some (.inl (((w64 (s1.1+1)),y5.2))))else(some (.inr (s1.2)))
def ziH(x0:List Bs):Option (Bs):=
 Option.bind (Option.bind (iter (zgK x0) ((0,([]:Bs)))) (fun e=>some (e))) (fun t1=>Option.bind (chk (decide ((t1).length≤68719476736))) fun _y6=>some (t1))
theorem ygX(hS:Sub S w)(hG:GV S){v0_:Value}{x0:List Bs}(h0_:RdS S v0_ x0){r:Bs}(hF:ziH x0=some r):
  Calls Tryz.prog 40 #[v0_] w fun e w'=>e = .returned (str (r))∧Ext w w':=by
 refine enter (n:=21) Tryz.func40 rfl rfl rfl ?_
 have H:=HS.start hS
 unfold ziH at hF
 refine sr ?_;intro K1 hK1
 refine p_as (v:=str (([]:Bs))) rfl ?_
 refine xk hK1 ?_;clear hK1
 refine sr ?_;intro K2 hK2
 refine yjL (zrN (l:=([Value.pointer none]++([Value.slice none 0 0]))) H tz123 rfl) ?_;clear H;intro w1 b1 H
 refine xk hK2 ?_;clear hK2
 refine wp_seq_k ?_;intro K3 hK3
 refine zbT fun m1 k1=>?_
 obtain⟨t1,hE1,hF1⟩:=bnd hF
 have J1:∀(a2:Value) (v2:Value) (cs3 rs2:LV) (S3:Mem) (m4:FM) (w5:World),(∀t,has [5,6,7,8,9,10,11,12,13,14,15,16,17,18,19] t=false→look m4 t=look m1 t)→Mem.le S S3→HS ⟨S,[],w⟩ S3 w5 [.osl (v2) (t1).length 1 cs3 rs2 5,.blk b1 (([a2]++([v2]))) 123]→BA b1 a2→RL S3 cs3 t1→K3 (fr 21 m4) w5:=by
  clear H;intro a2 v2 cs3 rs2 S3 m4 w5 k5 hle3 H g4 g5
  replace hG:=GV.mono hG hle3
  replace h0_:=RdS.mono h0_ hle3
  have q5:look m4 3 = .pointer (some ⟨b1,0,none⟩):=(k5 3 rfl).trans (k1 3)
  refine hK3 _ _ ?_
  refine sr ?_;intro K9 hK9
  obtain⟨y6,e6,hF1⟩:=bnd hF1
  refine zeX (l:=[.pointer (some ⟨b1,0,none⟩)]) is90 (zqN q5 ygC) ?_
  refine(zzE (k1:=1) (k2:=0) H rfl rfl g5 (Nat.le_trans (of_decide_eq_true (zdQ e6)) (by decide))).mono ?_;clear H;rintro _ w6 ⟨rfl,H⟩
  replace H:HS ⟨S,[],w⟩ S3 w6 [.blk b1 (([a2]++([v2]))) 123]:=H
  refine p_as (v:=str (t1)) rfl ?_
  refine xk hK9 ?_;clear hK9
  refine wp_ret ?_
  obtain rfl:=osi hF1
  refine e_1 rfl (ziX (v:=str (t1)) rfl) ?_
  exact⟨rfl,H.toExt⟩
 refine sr ?_;intro K4 hK4
 refine p_mv (v:=v0_) (k1 0) ?_
 refine zaC (r_lenR' u41 rfl h0_ H.sub) ?_
 refine p_mv (v:=.int .i64 (0)) rfl ?_
 refine xk hK4 ?_;clear hK4
 refine wp_block ?_
 refine zbT fun m2 k2=>?_
 obtain⟨out1,hL1,hE2⟩:=bnd hE1
 replace H:=H.nilOwn 1 5;have g3:RL S [] ([]:Bs):=RL.nil
 replace H:HS ⟨S,[],w⟩ S w1 [.osl (.slice none 0 0) (([]:Bs)).length 1 [] [] 5,.blk b1 (([Value.pointer none]++([Value.slice none 0 0]))) 123]:=H
 refine zjM [5,8,9,10,11,12,13,14,15,16,17,18,19] (fun(s1:Int×Bs) (m3:FM) (w2:World)=>∃(S1:Mem) (a1:Value) (v1:Value) (cs1 rs1:LV),look m3 8 = .int .i64 (s1.1)∧Mem.le S S1∧HS ⟨S,[],w⟩ S1 w2 [.osl (v1) (s1.2).length 1 cs1 rs1 5,.blk b1 (([a1]++([v1]))) 123]∧BA b1 a1∧RL S1 cs1 s1.2) hL1 ⟨_,_,_,_,_,(k2 8),(Mem.le_refl _),H,(Or.inl rfl),g3⟩ ?_
 clear H;intro k4 s1 m3 w2 k3 hI1 o2 hb1 hh1;obtain⟨S1,a1,v1,cs1,rs1,q1,hle1,H,g1,g2⟩:=hI1
 replace hG:=GV.mono hG hle1
 replace h0_:=RdS.mono h0_ hle1
 have q2:look m3 3 = .pointer (some ⟨b1,0,none⟩):=(k3 3 rfl).trans ((k2 3).trans (k1 3))
 have q3:look m3 6=v0_:=(k3 6 rfl).trans (k2 6)
 have q4:look m3 7 = .int .i64 (((x0).length:Int)):=(k3 7 rfl).trans (k2 7)
 unfold zgK at hb1
 refine sr ?_;intro K5 hK5
 refine zaC (zfP q1 q4) ?_
 refine xk hK5 ?_;clear hK5
 refine wp_seq_k ?_;intro K6 hK6
 refine ygG (t:=decide (s1.1<((x0).length:Int))) rfl (fun hc1=>?_) (fun hc1=>?_)
 ·replace hb1:=yyS hb1 hc1
  refine wp_skip ?_
  refine xn hK6 ?_;clear hK6
  refine wp_seq_k ?_;intro K7 hK7
  refine wp_block ?_
  refine sr ?_;intro K8 hK8
  obtain⟨y1,e1,hb1⟩:=bnd hb1
  obtain⟨b2,o3,N1,c1,cs2,hv1,hi1,hc2,hr1⟩:=h0_.get (zaB e1).2
  refine zaC (zaP (i:=(s1.1:Int).toNat) u41 tsz9 q3 hv1 q1 (zaB e1).1 hi1) ?_
  obtain rfl:=elT hr1
  refine zaC (zdK (p:=(o3+(s1.1:Int).toNat*1)) (o:=0) (v:=str (y1)) to9 H.sub rfl hc2 rfl) ?_
  refine p_as (v:=str (y1)) rfl ?_
  refine xk hK8 ?_;clear hK8
  refine wp_region_lit ?_
  refine p_mv (v:=str (y1)) rfl ?_
  refine zaC (zqM (N:=(y1).length) u9 rfl rfl) ?_
  obtain⟨y2,e2,hb1⟩:=bnd hb1
  refine zeX (l:=[.int .i64 (((y1).length:Int))]) is39 rfl ?_
  refine(xdN H.sub hG e2).mono ?_;rintro _ w3 ⟨rfl,hx⟩;replace H:=H.ext hx;clear hx
  obtain⟨y3,e3,hb1⟩:=bnd hb1
  refine zaC (ylP (r:=y3) rfl rfl (by have:=(zcW e3).1;omega) (zcW e3).2) ?_
  refine p_mv (v:=str (y1)) rfl ?_
  obtain⟨y4,e4,hb1⟩:=bnd hb1
  refine zaC (ylP (r:=y4) rfl rfl (by have:=(zcW e4).1;omega) (zcW e4).2) ?_
  obtain⟨y5,e5,hb1⟩:=bnd hb1
  refine zeX (l:=[.pointer (some ⟨b1,0,none⟩),str (y4)]) is89 (zqN q2 (zqN rfl ygC)) ?_
  refine(ztK (H.hand [1,0] rfl) g2 g1 e5).mono ?_;rintro _ w4 ⟨S2,pv1,pcs1,prs1,pa1,rfl,H2,pg1,pg2⟩
  obtain⟨H1,hle2⟩:=H.frame [1,0] [] rfl H2;clear H H2;have H:=H1;clear H1
  replace hG:=GV.mono hG hle2
  replace h0_:=RdS.mono h0_ hle2
  replace H:HS ⟨S,[],w⟩ S2 w4 [.blk b1 (([pa1]++([pv1]))) 123,.osl (pv1) (y5.2).length 1 pcs1 prs1 5]:=H
  refine wpList_nil ?_
  refine zdM ?_
  refine xn hK7 ?_;clear hK7
  refine wp_region_lit ?_
  refine zaC (zdS q1 rfl) ?_
  refine p_mv (v:=.int .i64 ((w64 (s1.1+1)))) rfl ?_
  refine wpList_nil ?_
  refine zaJ ?_
  replace H:=H.sel [1,0] rfl
  replace H:HS ⟨S,[],w⟩ S2 w4 [.osl (pv1) (y5.2).length 1 pcs1 prs1 5,.blk b1 (([pa1]++([pv1]))) 123]:=H
  obtain rfl:=osi hb1
  exact⟨((w64 (s1.1+1)),y5.2),_,rfl,(by (repeat (refine zqF rfl ?_));refine yfH k3 rfl ?_;exact kcx),⟨_,_,_,_,_,rfl,(Mem.le_trans hle1 hle2),H,pg2,pg1⟩,hh1⟩
 ·replace hb1:=yyW hb1 hc1
  refine wp_exit ?_
  refine zaW ?_
  refine zaW ?_
  refine ziQ ?_
  refine zaJ ?_
  replace H:HS ⟨S,[],w⟩ S1 w2 [.osl (v1) (s1.2).length 1 cs1 rs1 5,.blk b1 (([a1]++([v1]))) 123]:=H
  obtain rfl:=osi hb1
  obtain rfl:=osi hh1
  obtain rfl:=osi hE2
  exact J1 _ _ _ _ _ _ _ (by (repeat (refine zqF rfl ?_));refine yfH k3 rfl ?_;(repeat (refine zqF rfl ?_));refine yjR k2 ?_;exact kcx) hle1 H g1 g2
end
end Go.Proofs.YtmkomlbiaebddaaGreatDoor
namespace Go.Proofs.YtmkomlbiaebddaaGreatDoor.Am
open Go Go.RowKit
class zlD (G:List (Nat×Obj)):Prop where
 gv:∀S,GS G S→GV S
theorem wit{p:Prop}{G:List (Nat×Obj)}[zlD G](h:p):p:=h
section
variable {G:List (Nat×Obj)}[zlD G]
def ztN:PC:=⟨[.h (.i .i64)],[.s],ydF,false⟩
theorem ztF:PCok Tryz.prog G 39 ztN:=pc1 (t1:=.i .i64) (rts:=[.s]) rfl rfl (isFn Tryz.func39 (by kernel_rfl) (by kernel_rfl)) fun S _ _ _ hG hS h=>xdN hS (zlD.gv S hG) h
def yaR:PC:=⟨[.h .s,.h .s],[.s],fun x=>yiR x.1 x.2,false⟩
omit [zlD G] in
theorem ycG:PCok Tryz.prog G 109 yaR:=pc2 (t1:=.s) (t2:=.s) (rts:=[.s]) rfl rfl rfl (isFn Tryz.func109 (by kernel_rfl) (by kernel_rfl)) fun _ _ _ _ _ _ hS h=>Trim_c hS h
def ydH:PC:=⟨[.h .s,.h .s],[.s,.s,.b],fun x=>cutP x.1 x.2,false⟩
theorem ydA:PCok Tryz.prog G 106 ydH:=pc2 (t1:=.s) (t2:=.s) (rts:=[.s,.s,.b]) rfl rfl rfl (isFn Tryz.func106 (by kernel_rfl) (by kernel_rfl)) fun S _ _ _ _ hG hS h=>Cut_c hS (zlD.gv S hG) h
def ybV:PC:=⟨[.h .s],[.i .i64,.er],yzU,false⟩
omit [zlD G] in
theorem ybY:PCok Tryz.prog G 110 ybV:=by
 refine⟨isFn Tryz.func110 (by kernel_rfl) (by kernel_rfl),fun S0 w0 us (x:Bs) (y:Int×Bool) hG hS ha hy=>?_⟩
 have ha:A2 (VR S0 []) [svOf .s x] us:=ha
 cases ha with
 |cons q1 q2=>
  cases q2
  rw[zqB (t:=.s) rfl q1]
  obtain⟨h1,h2⟩:=Atoi_c hS (r:=y) hy
  refine h2.mono fun e w' ⟨he,hx⟩=>⟨hx,_,he,⟨_,rfl,_,_,rfl,(rfl:[_]=[_]),_,rfl,?_⟩,fun h=>by cases h⟩
  exact⟨_,rfl,.inl ⟨h1,rfl⟩⟩
end
section
variable {G:List (Nat×Obj)}
def macP(key s:Bs):Option Bs:=bif decide (key.length≤68719470000)&&decide (s.length≤68719460000)then some (macF key s)else none
def zvN:PC:=⟨[.h .s,.h .s],[.s],fun x=>macP x.1 x.2,false⟩
theorem yaW:PCok Tryz.prog G 53 zvN:=pc2 (t1:=.s) (t2:=.s) (rts:=[.s]) rfl rfl rfl (isFn Tryz.func53 (by kernel_rfl) (by kernel_rfl)) fun _ _ x1 x2 y _ hS h=>by
 unfold macP at h
 obtain⟨hb,h⟩:=zaF h
 simp only[Bool.and_eq_true,decide_eq_true_eq]at hb
 cases h
 exact yrM hS (mac_ok4 hb.1 hb.2)
def ywJ(x y:Bs):Option Bool:=bif decide (x.length≤68719476736)&&decide (y.length≤68719476736)then some (x==y)else none
def yiT:PC:=⟨[.h .s,.h .s],[.b],fun x=>ywJ x.1 x.2,false⟩
theorem ylA:PCok Tryz.prog G 49 yiT:=pc2 (t1:=.s) (t2:=.s) (rts:=[.b]) rfl rfl rfl (isFn Tryz.func49 (by kernel_rfl) (by kernel_rfl)) fun _ _ x1 x2 y _ hS h=>by
 unfold ywJ at h
 obtain⟨hb,h⟩:=zaF h
 simp only[Bool.and_eq_true,decide_eq_true_eq]at hb
 cases h
 exact ycS hS (yoO hb.1 hb.2)
def ycW:PC:=⟨[.h (.sl .s)],[.s],ziH,false⟩
theorem ycY[zlD G]:PCok Tryz.prog G 40 ycW:=by
 refine⟨isFn Tryz.func40 (by kernel_rfl) (by kernel_rfl),fun S0 w0 us (x:List Bs) (y:Bs) hG hS ha hy=>?_⟩
 have ha:A2 (VR S0 []) [svOf (.sl .s) x] us:=ha
 cases ha with
 |cons q1 q2=>
  cases q2
  rename_i u
  have q1:rep (.sl .s) S0 [u] x:=q1
  obtain⟨u',hu,hr⟩:=q1
  cases hu
  exact(ygX hS (zlD.gv S0 hG) hr hy).mono fun e w' ⟨he,hx⟩=>⟨hx,_,he,zvY (l:=[.s]) rfl,fun h=>by cases h⟩
end
def τWkC:TE:=[(3,⟨.int .i64,1,[.v (.i .i64) (show Int from 0)],(.i .i64),8⟩),
 (5,⟨.int .u8,1,[.v (.i .u8) (show UInt8 from 0)],(.i .u8),1⟩),
 (9,⟨.s,1,[.v .s (show Bs from [])],.s,16⟩),
 (100,⟨.sl 5,1,[.nils],(.sl (.i .u8)),24⟩),
 (102,⟨.int .u64,1,[.v (.i .u64) (show UInt64 from 0)],(.i .u64),8⟩),
 (133,⟨.int .u32,1,[.v (.i .u32) (show UInt32 from 0)],(.i .u32),4⟩)]
theorem τ_okWkC:TEok Tryz.prog τWkC:=ymL (by kernel_rfl) (by kernel_rfl)
theorem yjQ:Tryz.prog.follows .mixedOrders=true:=by kernel_rfl
section
variable {tabs:List (Nat×Obj)}[zlD tabs]
def znP(v0:UInt64)(v2:Int)(v3:Bs):Option ((Int×Bs)⊕Bs):=
 bif decide (v2≥0)then((chk (decide ((0:Int)≤w64 ((8:Int)*v2)))).bind fun _=>let v4:UInt8:=i8 ((i64 (shrI .u64 (v0.toNat:Int) (w64 ((8:Int)*v2)))).toNat:Int)
 (app v3 ([v4]:Bs)).bind fun v5=>some (.inl (w64 (v2-1),v5)))else some (.inr v3)
def zqQ(v0:UInt64)(v1:Int):Option Bs:=
 (iter (fun x=>znP v0 x.1 x.2) (w64 (v1-1),([]:Bs))).bind fun v6=>some v6
def yeT:SC:=⟨⟨[(0,.nils),(1,(.h (.i .u64))),(2,hI)],[]⟩,1,[(none,⟨[(0,(.own 0))],[.osl (.i .u8) 5]⟩)],fun x=>zqQ x.1 x.2⟩
theorem ysE:SCok Tryz.prog tabs 54 yeT:=wit (G:=tabs)<|yrC (η:=[(200002,.loop [.sl 0 (.i .u8) 5] ⟨[(0,(.own 0)),(7,hI)],[.osl (.i .u8) 5]⟩ [1,6] [(some 0,⟨[(0,(.own 0))],[.osl (.i .u8) 5]⟩)])]) (Γ:=⟨[],[],false,[]⟩) yjQ τ_okWkC (ctok trivial trivial) Tryz.func54 (isFn Tryz.func54) (by kernel_rfl) (by kernel_rfl) (by kernel_rfl)
def zhX(v0:Bs)(v1:UInt64)(v2:Int):Option ((UInt64×Int)⊕UInt64):=
 bif decide (v2<(v0.length:Int))then((chk (decide ((0:Int)≤((8:UInt64).toNat:Int)))).bind fun _=>(idx v0 v2).bind fun v3=>let v4:UInt64:=(i64 (shlI .u64 (v1.toNat:Int) ((8:UInt64).toNat:Int)))|||(i64 (v3.toNat:Int))
 some (.inl (v4,w64 (v2+1))))else some (.inr v1)
def zlH(v0:Bs):Option (UInt64):=
 (iter (fun x=>zhX v0 x.1 x.2) ((0:UInt64),(0:Int))).bind fun v5=>some v5
def zyN:PC:=⟨[hS],[(.i .u64)],fun x=>zlH x,false⟩
theorem yhR:PCok Tryz.prog tabs 55 zyN:=wit (G:=tabs)<|ygS (η:=[(200003,.loop [] ⟨[(3,(.h (.i .u64))),(7,hI)],[]⟩ [0,2,6] [(some 0,⟨[(3,(.h (.i .u64)))],[]⟩)])]) (Γ:=⟨[],[],false,[]⟩) yjQ τ_okWkC (ctok trivial trivial) Tryz.func55 (isFn Tryz.func55) (by kernel_rfl) rfl (by kernel_rfl)
def ziF(v0:Bs)(v1:Int):Option Bs:=
 (zqQ (i64 v1) (8:Int)).bind fun v2=>(macP v0 v2).bind fun v3=>(idx v3 (31:Int)).bind fun v4=>let v5:UInt8:=i8 (((v4&&&(15:UInt8)).toNat:Int)+((4:UInt8).toNat:Int))
 (sub3 v3 ((v4&&&(15:UInt8)).toNat:Int) (v5.toNat:Int)).bind fun v6=>(zlH v6).bind fun v7=>(chk (decide ((0:Int)<((1000000:UInt64).toNat:Int)))).bind fun _=>let v8:UInt64:=i64 (Int.tmod ((v7&&&(2147483647:UInt64)).toNat:Int) ((1000000:UInt64).toNat:Int))
 (ydF (w64 ((w64 (v8.toNat:Int))+1000000))).bind fun v9=>(subL v9 (1:Int)).bind fun v10=>some v10
def ymJ:PC:=⟨[hS,hI],[.s],fun x=>ziF x.1 x.2,false⟩
theorem yaI:PCok Tryz.prog tabs 23 ymJ:=wit (G:=tabs)<|ygS (η:=[]) (Γ:=⟨[(53,zvN),(55,zyN),(39,ztN)],[(54,yeT)],false,[]⟩) yjQ τ_okWkC (ctok ⟨yaW,⟨yhR,⟨ztF,trivial⟩⟩⟩ ⟨ysE,trivial⟩) Tryz.func23 (isFn Tryz.func23) (by kernel_rfl) rfl (by kernel_rfl)
def zfC(v0:UInt64)(v3:Int)(v4:Bs):Option ((Int×Bs)⊕Bs):=
 bif decide (v3≥0)then((chk (decide ((0:Int)≤w64 ((8:Int)*v3)))).bind fun _=>let v5:UInt8:=i8 ((i64 (shrI .u64 (v0.toNat:Int) (w64 ((8:Int)*v3)))).toNat:Int)
 (app v4 ([v5]:Bs)).bind fun v6=>some (.inl (w64 (v3-1),v6)))else some (.inr v4)
def zuF(v0:UInt64)(v1:Int)(v2:Bs):Option Bs:=
 (iter (fun x=>zfC v0 x.1 x.2) (w64 (v1-1),v2)).bind fun v7=>some v7
def ybP:SC:=⟨⟨[(0,(.own 0)),(1,(.h (.i .u64))),(2,hI)],[.osl (.i .u8) 5]⟩,1,[(none,⟨[(0,(.own 1))],[.dead,.osl (.i .u8) 5]⟩)],fun x=>zuF x.1 x.2.1 x.2.2⟩
theorem ynI:SCok Tryz.prog tabs 118 ybP:=wit (G:=tabs)<|yrC (η:=[(200002,.loop [] ⟨[(0,(.own 1)),(7,hI)],[.dead,.osl (.i .u8) 5]⟩ [1,6] [(some 0,⟨[(0,(.own 1))],[.dead,.osl (.i .u8) 5]⟩)])]) (Γ:=⟨[],[],false,[]⟩) yjQ τ_okWkC (ctok trivial trivial) Tryz.func118 (isFn Tryz.func118) (by kernel_rfl) (by kernel_rfl) (by kernel_rfl)
def ybG(v2:Int):Option (Bool):=
 bif decide (v2<1)then some true else some (decide (v2>64))
def ztA(v2:Int)(v3:Int):Option ((Bs×Int)⊕Unit):=
 (ybG v2).bind fun v4=>bif v4 then some (.inl (([]:Bs),(40:Int)))else(bif decide (v3<1)then some (.inl (([]:Bs),(41:Int)))else(bif decide (v3>96)then some (.inl (([]:Bs),(41:Int)))else some (.inr ())))
def zjC(v15:Bs)(v16:Bs)(v17:Int)(v18:Bs)(v19:Bs):Option ((Int×Bs×Bs)⊕((Bs×Bs))):=
 bif decide (v17<(v15.length:Int))then((chk (decide ((0:Int)≤v17)&&decide (v17<(v19.length:Int)))).bind fun _=>(idx v19 v17).bind fun v20=>(idx v16 v17).bind fun v21=>(chk (decide ((0:Int)≤v17)&&decide (v17<(v19.length:Int)))).bind fun _=>(setL v19 v17 (v20^^^v21)).bind fun v22=>some (.inl (w64 (v17+1),v18,v22)))else some (.inr (v18,v19))
def zjB(v0:Bs)(v2:Int)(v12:Bs)(v13:Int)(v14:Bs)(v15:Bs):Option ((Bs×Int×Bs×Bs)⊕((Bs×Bs))):=
 bif decide (v13<(w64 (v2-1)))then((macP v0 v12).bind fun v16=>(iter (fun x=>zjC v15 v16 x.1 x.2.1 x.2.2) ((0:Int),v14,v15)).bind fun v23=>some (.inl (v16,w64 (v13+1),v23)))else some (.inr (v14,v15))
def zjW(v0:Bs)(v1:Bs)(v2:Int)(v3:Int)(v8:UInt32)(v9:Bs):Option ((UInt32×Bs)⊕Bs):=
 bif decide ((v9.length:Int)<v3)then((zuF (i64 (v8.toNat:Int)) (4:Int) v1).bind fun v10=>(macP v0 v10).bind fun v11=>(iter (fun x=>zjB v0 v2 x.1 x.2.1 x.2.2.1 x.2.2.2) (v11,(0:Int),v9,v11)).bind fun v24=>(app v24.1 v24.2).bind fun v25=>some (.inl (i32 ((v8.toNat:Int)+((1:UInt32).toNat:Int)),v25)))else some (.inr v9)
def zfD(v0:Bs)(v1:Bs)(v2:Int)(v3:Int):Option (Bs×Int):=
 (ztA v2 v3).bind fun v5=>match v5 with
 |.inl v6=>(some v6)
 |.inr _v7=>((iter (fun x=>zjW v0 v1 v2 v3 x.1 x.2) ((1:UInt32),([]:Bs))).bind fun v26=>(subH v26 v3).bind fun _v27=>some (List.take v3.toNat v26,(0:Int)))
def ybO:PC:=⟨[hS,hS,hI,hI],[.s,(.i .i64)],fun x=>zfD x.1 x.2.1 x.2.2.1 x.2.2.2,false⟩
theorem ycM:PCok Tryz.prog tabs 92 ybO:=wit (G:=tabs)<|ygS (η:=[(2300002,.join [] [0,1,2,3] [(none,⟨[(15,hB)],[]⟩)]),
 (2000005,.join [] [0,1,2,3] [(some 1000000,⟨[(8,hS),(9,hI)],[]⟩),(none,⟨[],[]⟩)]),
 (200015,.loop [] ⟨[(10,(.own 0)),(13,(.own 1)),(54,hI)],[.osl (.i .u8) 5,.osl (.i .u8) 5]⟩ [0,1,2,3,11,12,46,47,53] [(some 5,⟨[(10,(.own 0)),(13,(.own 1))],[.osl (.i .u8) 5,.osl (.i .u8) 5]⟩)]),
 (200012,.loop [] ⟨[(10,(.own 0)),(12,hS),(13,(.own 1)),(47,hI)],[.osl (.i .u8) 5,.osl (.i .u8) 5]⟩ [0,1,2,3,11,46] [(some 3,⟨[(10,(.own 0)),(13,(.own 1))],[.osl (.i .u8) 5,.osl (.i .u8) 5]⟩)]),
 (200007,.loop [.sl 10 (.i .u8) 5] ⟨[(10,(.own 0)),(11,(.h (.i .u32)))],[.osl (.i .u8) 5]⟩ [0,1,2,3] [(some 1,⟨[(10,(.own 0))],[.osl (.i .u8) 5]⟩)]),
 (4000017,.sch [(.pu,0,[]),(.pu,1,[]),(.pu,2,[]),(.pu,3,[]),(.pu,4,[]),(.pu,5,[]),(.pu,6,[]),(.pu,7,[]),(.pu,8,[]),(.mn,9,[0,1])])]) (Γ:=⟨[(53,zvN)],[(118,ybP)],false,[]⟩) yjQ τ_okWkC (ctok ⟨yaW,trivial⟩ ⟨ynI,trivial⟩) Tryz.func92 (isFn Tryz.func92) (by kernel_rfl) rfl (by kernel_rfl)
end
end Go.Proofs.YtmkomlbiaebddaaGreatDoor.Am
namespace Go.Proofs.YtmkomlbiaebddaaGreatDoor.Fd
open Go Go.Proofs Go.RowKit Go.Shelf
attribute [local go_sem] Oper.semAt_some
def downL:Int→Nat→List Int
 |_,0=>[]
 |hi,n+1=>hi::downL (hi-1) n
def loS(step window:Int):Int:=if step-window<0 then 0 else step-window
def stepsL(step window:Int):List Int:=bif decide (step<0)||decide (1099511627776<step)||decide (window<0)||decide (10<window)then []else downL (step+window) (step+window-loS step window+1).toNat
theorem stepsL_in{step window:Int}(h1:¬step<0)(h2:¬1099511627776<step)(h3:¬window<0)(h4:¬10<window):stepsL step window=downL (step+window) (step+window-loS step window+1).toNat:=by
 unfold stepsL
 simp[h1,h2,h3,h4]
theorem yqQ{step window:Int}(h:step<0∨1099511627776<step∨window<0∨10<window):stepsL step window=[]:=by
 unfold stepsL
 have:(decide (step<0)||decide (1099511627776<step)||decide (window<0)||decide (10<window))=true:=by simp;omega
 rw[this];rfl
set_option maxRecDepth 100000 in
set_option maxHeartbeats 2000000 in
theorem ytE(F:Fence)(n:Nat)(hf:F.fn 123)(hro:F.round=none)(hn:1≤n)(l bs bw n₀:Nat)(step window:Int)(J Jx:List Int→World→Prop)
  (hY:∀pre x W,J pre W→pre.length<(stepsL step window).length→YieldAt F (n-1) Tryz.prog l #[.int .i64 x] W fun e W'=>
   (e = .returned (.bool true)∧J (pre++[x]) W'∧Below n₀ W W')∨(e = .returned (.bool false)∧Jx (pre++[x]) W'))
  (W:World) (hs0:bs<n₀) (hw0:bw<n₀) (hs:W.cell? ⟨bs,0,none⟩=some (.int .i64 step)) (hw:W.cell? ⟨bw,0,none⟩=some (.int .i64 window)) (h0:J [] W):
  CallsIn F n Tryz.prog 123 #[.func (.yield l) #[] #[],.pointer (some ⟨bs,0,none⟩),.pointer (some ⟨bw,0,none⟩)] W fun e W'=>(∃v,e = .returned v) ∧
   ((∃ys,ys=stepsL step window∧J ys W')∨(∃pre,pre <+:stepsL step window∧Jx pre W')):=by
 refine callsIn_of_wp Tryz.func123 rfl hf ?_ hro
 simp only[Tryz.ntmps123,List.size_toArray,List.length_cons,List.length_nil,Nat.reduceAdd,Nat.reduceSub,Array.replicate_succ,Array.replicate_zero,List.push_toArray,List.append_toArray,List.nil_append,List.cons_append]
 gi_wp2
 all_goals first
  | (refine bodyPost_ret (results_none rfl _ _ _) rfl ?_
     have hnil:stepsL step window=[]:=yqQ (by omega)
     first
      |exact⟨⟨_,rfl⟩,.inl ⟨_,rfl,by rw[hnil];exact h0⟩⟩
      |exact⟨⟨_,rfl⟩,.inl (by rw[hnil];exact h0)⟩)
  |skip
 have hin:¬step<0∧¬1099511627776<step∧¬window<0∧¬10<window:=by omega
 have hL:=stepsL_in hin.1 hin.2.1 hin.2.2.1 hin.2.2.2
 have hlo:0≤loS step window∧loS step window≤step+window∧(loS step window=if step-window<0 then 0 else step-window):=by unfold loS;split<;>omega
 have d1:decide (step<0)=false:=decide_eq_false hin.1
 have d2:decide (1099511627776<step)=false:=decide_eq_false hin.2.1
 have d3:decide (window<0)=false:=decide_eq_false hin.2.2.1
 have d4:decide (10<window)=false:=decide_eq_false hin.2.2.2
 simp only[d1,d2,d3,d4,Bool.or_false]
 gi_loopw [4] (fun p wr=>∃(pre:List Int) (s:Int) (c:Nat),p = .int .i64 s∧stepsL step window=pre++downL s c∧s=loS step window+(c:Int)-1∧s≤step+window∧J pre wr∧Below n₀ W wr)
  (fun p wr=>(intOf p-loS step window+1).toNat)
 case atStart=>
  exact⟨[],step+window,_,rfl,hL,by omega,Int.le_refl _,h0,Below.refl _ _⟩
 case round=>
  obtain⟨pre,s,c,rfl,hx,hsc,hsh,hJs,hbel⟩:=hrel
  have hs':=(hbel.cell (p:=⟨bs,0,none⟩) hs0).trans hs
  have hw':=(hbel.cell (p:=⟨bw,0,none⟩) hw0).trans hw
  have hlb:-1≤s:=by omega
  clear hL h0 hs hw d1 d2 d3 d4
  cases c with
  |zero=>
   have k1:s<0∨s<step-window:=by
    obtain⟨h1,h2,h3⟩:=hlo
    split at h3<;>omega
   clear hlo hsc
   gi_wp2
   all_goals
    refine⟨fun _ h=>(by cases h),?_⟩
    gi_wp2
    go_end0
    exact⟨⟨_,rfl⟩,.inl ⟨pre,by rw[hx];simp[downL],hJs⟩⟩
  |succ c=>
   have k1:0≤s:=by omega
   have k2:step-window≤s:=by
    obtain⟨h1,h2,h3⟩:=hlo
    split at h3<;>omega
   have hsc':Unit→s=loS step window+((c+1:Nat):Int)-1:=fun _=>hsc
   clear hlo hsc
   obtain⟨fn,tmps,assign,body,hy,hR⟩:=hY pre s wr hJs (by rw[hx];simp[downL])
   gi_wp2
   all_goals
    refine hR.mono ?_
    rintro e W3 (⟨rfl,hJ3,hk3⟩|⟨rfl,hJx3⟩)
    ·gi_wp2
     go_roundw
     case rel=>
      have:=hsc' ()
      have:=hsc' ()
      exact⟨pre++[s],s-1,c,rfl,by rw[hx];simp[downL],by omega,by omega,hJ3,hbel.trans hk3⟩
     case measure=>
      have:=hsc' ()
      simp[intOf]
      omega
    ·gi_wp2
     go_end0
     exact⟨⟨_,rfl⟩,.inr ⟨pre++[s],⟨downL (s-1) c,by rw[hx];simp[downL]⟩,hJx3⟩⟩
theorem steps_in(F:Fence)(n:Nat)(hf:F.fn 96)(hro:F.round=none)(step window:Int)(w:World):
  CallsIn F n Tryz.prog 96 #[.int .i64 step,.int .i64 window] w fun e w'=>e = .returned (.func (.func 123) #[] #[.pointer (some ⟨w.heap.size,0,none⟩),.pointer (some ⟨w.heap.size+1,0,none⟩)])∧w'=(w.alloc (.cells #[.int .i64 step] 3)).alloc (.cells #[.int .i64 window] 3):=by
 refine callsIn_of_wp Tryz.func96 rfl hf ?_ hro
 simp only[Tryz.ntmps96,List.size_toArray,List.length_cons,List.length_nil,Nat.reduceAdd,Nat.reduceSub,Array.replicate_succ,Array.replicate_zero,List.push_toArray,List.append_toArray,List.nil_append,List.cons_append]
 gi_wp2
 go_ret
 exact⟨rfl,rfl⟩
theorem steps_stops(F:Fence)(n:Nat)(hf:F.fn 123)(hro:F.round=none)(hn:1≤n)(bs bw n₀:Nat)(step window:Int)(w:World)(hs0:bs<n₀)(hw0:bw<n₀)(hn0:n₀≤w.heap.size)
  (hs:w.cell? ⟨bs,0,none⟩=some (.int .i64 step)) (hw:w.cell? ⟨bw,0,none⟩=some (.int .i64 window)):
  SeqStopsK F n Tryz.prog 123 #[.pointer (some ⟨bs,0,none⟩),.pointer (some ⟨bw,0,none⟩)] (fun x:Int=>#[Value.int .i64 x]) (Below n₀) (fun ys=>ys=stepsL step window) (fun pre=>pre <+:stepsL step window) (stepsL step window).length w:=fun l J Jx W hW _ _ hY h0=>
 ytE F n hf hro hn l bs bw n₀ step window J Jx hY W hs0 hw0 ((hW.cell (p:=⟨bs,0,none⟩) (by simp;omega)).trans hs) ((hW.cell (p:=⟨bw,0,none⟩) (by simp;omega)).trans hw) h0
end Go.Proofs.YtmkomlbiaebddaaGreatDoor.Fd
namespace Go.Proofs.YtmkomlbiaebddaaGreatDoor.Am
open Go Go.Proofs Go.RowKit Go.Shelf
attribute [local go_sem] Oper.semAt_some
theorem ypY{σ β:Type}{body:σ→Option (σ⊕β)}(I:σ→Prop)(m:σ→Nat)(G:β→Prop)(hr:∀s,I s→(∃s',body s=some (.inl s')∧I s'∧m s'<m s)∨∃b,body s=some (.inr b)∧G b){s:σ}(hs:I s)(hm:m s<1099511627776):∃b,iter body s=some b∧G b:=ycC I m G hr FU s hs (by unfold FU;exact hm)
theorem yvI(x:Int):-9223372036854775808≤w64 x∧w64 x≤9223372036854775807:=by
 have e:w64 x=(x+9223372036854775808)%18446744073709551616-9223372036854775808:=by
  simp only[w64,IntKind.wrap,IntKind.signed,IntKind.bits]
  simp
  try omega
 omega
theorem app_ok{α:Type}{a b:List α}(h:a.length+b.length≤68719476736):app a b=some (a++b):=by
 unfold app
 rw[zaY (by unfold LIM;omega)]
theorem obig_ok(x:UInt64):∃r,zqQ x 8=some r∧r.length=8:=by
 have h:=ypY (body:=fun(y:Int×Bs)=>znP x y.1 y.2) (fun y=>-1≤y.1∧y.1≤7∧(y.2.length:Int)=7-y.1) (fun y=>(y.1+1).toNat) (fun r=>r.length=8) (fun y hy=>by
  obtain⟨i,l⟩:=y
  obtain⟨h1,h2,h3⟩:=hy
  simp only at h1 h2 h3
  unfold znP
  simp only
  by_cases hi:i≥0
  ·left
   rw[zaY hi,zaS (by omega) (by omega),zeO (by simp;omega),zaA]
   rw[app_ok (by simp;omega),zaA]
   refine⟨_,rfl,?_,?_⟩
   ·simp only[List.length_append,List.length_cons,List.length_nil]
    rw[zaS (by omega) (by omega)]
    omega
   ·simp only[]
    rw[zaS (by omega) (by omega)]
    omega
  ·right
   rw[zaZ hi]
   exact⟨l,rfl,by omega⟩) (s:=(w64 (8-1),[])) (by simp[zaS]) (by simp[zaS])
 obtain⟨r,h1,h2⟩:=h
 refine⟨r,?_,h2⟩
 unfold zqQ
 rw[h1,zaA]
theorem xeV{l:Bs}(h:l.length≤1000):∃r,zlH l=some r:=by
 have h:=ypY (body:=fun(y:UInt64×Int)=>zhX l y.1 y.2) (fun y=>0≤y.2∧y.2≤(l.length:Int)) (fun y=>(l.length-y.2).toNat) (fun _=>True) (fun y hy=>by
  obtain⟨v,i⟩:=y
  obtain⟨h1,h2⟩:=hy
  simp only at h1 h2
  unfold zhX
  simp only
  by_cases hi:i<(l.length:Int)
  ·left
   obtain⟨k,rfl⟩:∃k:Nat,i=k:=⟨i.toNat,by omega⟩
   rw[zaY hi,zeO (by simp),zaA,zbO rfl (by omega),zaA]
   refine⟨(_,w64 ((k:Int)+1)),rfl,?_,?_⟩
   ·simp only[]
    rw[zaS (by omega) (by omega)]
    omega
   ·simp only[]
    rw[zaS (by omega) (by omega)]
    omega
  ·right
   rw[zaZ hi]
   exact⟨v,rfl,trivial⟩) (s:=((0:UInt64),(0:Int))) (by simp) (by simp;omega)
 obtain⟨r,h1,_⟩:=h
 refine⟨r,?_⟩
 unfold zlH
 rw[h1,zaA]
theorem yfA:∀(f u:Nat),(decF f u).length≤f
 |0,_=>by simp[decF]
 |f+1,u=>by
  unfold decF
  cases Nat.blt u 10 with
  |true=>simp
  |false=>
   have:=yfA f (u/10)
   simp only[cond_false,List.length_append,List.length_cons,List.length_nil]
   omega
theorem xaQ{f u:Nat}(h:0<f):0<(decF f u).length:=by
 cases f with
 |zero=>omega
 |succ f=>
  unfold decF
  cases Nat.blt u 10<;>simp
theorem itoa_ok{n:Int}(h0:-9223372036854775808≤n)(h1:n≤9223372036854775807):ydF n=some (ydE n):=by
 unfold ydF
 rw[yjS (by simp;omega)]
theorem ytO(n:Int):1≤(ydE n).length∧(ydE n).length≤21:=by
 unfold ydE
 cases decide (n<0) with
 |true=>
  have:=yfA 20 n.natAbs
  simp only[cond_true,List.length_cons];omega
 |false=>
  have:=yfA 20 n.toNat
  have:=xaQ (f:=20) (u:=n.toNat) (by omega)
  simp only[cond_false];omega
theorem xfQ{secret:Bs}(h:secret.length≤68719470000)(s:Int):∃c,ziF secret s=some c∧c.length≤21:=by
 obtain⟨b,hb,hbl⟩:=obig_ok (i64 s)
 have hm:macP secret b=some (macF secret b):=by unfold macP;rw[yjS (by simp;omega)]
 have hml:=zpO secret b
 unfold ziF
 rw[hb,zaA,hm,zaA,zbO (j:=31) (i:=31) rfl (by omega),zaA]
 generalize (macF secret b)[31]'_=v4
 have h15:(v4&&&(15:UInt8)).toNat≤15:=by rw[UInt8.toNat_and];exact Nat.and_le_right
 generalize (v4&&&(15:UInt8)).toNat=g at h15
 have h5:((i8 ((g:Int)+((4:UInt8).toNat:Int))).toNat:Int)=(g:Int)+4:=by
  rw[←zrP,show((4:UInt8).toNat:Int)=4 from rfl]
  simp only[IntKind.wrap,IntKind.signed,IntKind.bits]
  simp
  omega
 simp only[]
 rw[h5]
 have h6:sub3 (macF secret b) (g:Int) ((g:Int)+4)=some (((macF secret b).take ((g:Int)+4).toNat).drop (g:Int).toNat):=by
  unfold sub3
  rw[yjS (by simp;omega)]
 rw[h6,zaA]
 obtain⟨r,hr⟩:=xeV (l:=((macF secret b).take ((g:Int)+4).toNat).drop (g:Int).toNat) (by simp only[List.length_drop,List.length_take];omega)
 rw[hr,zaA,zeO (by simp),zaA]
 generalize (i64 (Int.tmod ((r&&&(2147483647:UInt64)).toNat:Int) ((1000000:UInt64).toNat:Int)))=v8
 have hw:=yvI ((w64 (v8.toNat:Int))+1000000)
 rw[itoa_ok hw.1 hw.2,zaA]
 have hl:=ytO (w64 ((w64 (v8.toNat:Int))+1000000))
 have h7:subL (ydE (w64 ((w64 (v8.toNat:Int))+1000000))) 1=some ((ydE (w64 ((w64 (v8.toNat:Int))+1000000))).drop 1):=by
  unfold subL
  rw[yjS (by simp;omega)];rfl
 rw[h7,zaA]
 exact⟨_,rfl,by simp only[List.length_drop];omega⟩
def codeF(secret:Bs)(s:Int):Bs:=(ziF secret s).getD []
theorem yfX{secret:Bs}(h:secret.length≤68719470000)(s:Int):ziF secret s=some (codeF secret s)∧(codeF secret s).length≤21:=by
 obtain⟨c,h1,h2⟩:=xfQ h s
 unfold codeF
 rw[h1]
 exact⟨rfl,h2⟩
def zmL(f:Int→Bs)(code:Bs):List Int→Int×Bool
 |[]=>(0,false)
 |s::l=>bif f s==code then(s,true)else zmL f code l
def yjU(secret code:Bs)(step window:Int):Option (Int×Bool):=bif decide (secret.length≤68719470000)&&decide (code.length≤68719476736)then some (zmL (codeF secret) code (Fd.stepsL step window))else none
end Go.Proofs.YtmkomlbiaebddaaGreatDoor.Am
namespace Go.Proofs.YtmkomlbiaebddaaGreatDoor.Am
open Go Go.Proofs Go.RowKit Go.Shelf
attribute [local go_sem] Oper.semAt_some
theorem ykK{W:World}{B:Nat}{v:Value}{t:TypeId}(h:W.heap[B]? = some (.cells #[v] t (0,0))):W.cell? ⟨B,0,none⟩=some v∧W.frozen? ⟨B,0,none⟩=false:=by
 constructor<;>simp[World.cell?,World.frozen?,h]
theorem zqK(W:World)(v:Value)(t:TypeId):(W.alloc (.cells #[v] t)).cell? ⟨W.heap.size,0,none⟩=some v∧(W.alloc (.cells #[v] t)).frozen? ⟨W.heap.size,0,none⟩=false:=
 ykK (World.alloc_heap_new W _)
theorem zbN{W:World}{a:Addr}{v:Value}(o:Obj)(h:W.cell? a=some v):(W.alloc o).cell? a=some v:=cell_kept h (World.grownBy_alloc W o none) (fun r e=>by cases e)
theorem zkH{W:World}{a:Addr}{v:Value}(o:Obj)(h:W.cell? a=some v)(hf:W.frozen? a=false):(W.alloc o).frozen? a=false:=(frozen_kept h (World.grownBy_alloc W o none) (fun r e=>by cases e)).trans hf
theorem yoY{G:List (Nat×Obj)}{S:Mem}{w W:World}(hG:GS G S)(hS:Sub S w)(hB:Below w.heap.size w W):GS G (zoL W):=fun p hp=>by
 have h1:=hS _ _ (hG p hp)
 exact(hB.block _ (Array.getElem?_eq_some_iff.1 h1).1).trans h1
theorem ypK{W:World}{b o:Nat}{v:Value}(h:W.cell? ⟨b,o,none⟩=some v):b<W.heap.size:=by
 unfold World.cell? at h
 split at h
 ·rename_i hb;exact(Array.getElem?_eq_some_iff.1 hb).1
 ·cases h
theorem zvT{W W':World}{b o:Nat}{v:Value}(h:Ext W W')(hc:W.cell? ⟨b,o,none⟩=some v):W'.cell? ⟨b,o,none⟩=some v:=(h.cells.1 b o (ypK hc)).trans hc
theorem ydQ{W W':World}{b o:Nat}{v:Value}(h:Ext W W')(hc:W.cell? ⟨b,o,none⟩=some v)(hf:W.frozen? ⟨b,o,none⟩=false):W'.frozen? ⟨b,o,none⟩=false:=(h.cells.2 b o (ypK hc)).trans hf
theorem yiN{W W':World}(h:Ext W W'):KeepsOthers W W':=⟨h.size,fun b o hb _=>(h.block b (Array.getElem?_eq_some_iff.1 hb).1).trans hb⟩
section
variable {G:List (Nat×Obj)}[zlD G]
theorem yqO{secret:Bs}(hs:secret.length≤68719470000)(x:Int){W:World}(hG:GS G (zoL W)):
  Calls Tryz.prog 23 #[str secret,.int .i64 x] W fun e w'=>e = .returned (str (codeF secret x))∧Ext W w':=by
 refine((yaI (tabs:=G)).ok (zoL W) W [str secret,.int .i64 x] (secret,x) (codeF secret x) hG (yeY W) (.cons (rfl:[_]=[_]) (.cons (rfl:[_]=[_]) .nil)) (yfX hs x).1).mono fun e w' ⟨hx,v,he,hr,_⟩=>?_
 have hr:rep .s _ [v] (codeF secret x):=hr
 have hr:[v]=[str (codeF secret x)]:=hr
 rw[he,(List.cons.inj hr).1]
 exact⟨rfl,hx⟩
theorem yrK{x y:Bs}(hx:x.length≤68719476736)(hy:y.length≤68719476736){W:World}:
  Calls Tryz.prog 49 #[str x,str y] W fun e w'=>e = .returned (.bool (x==y))∧Ext W w':=ycS (yeY W) (yoO hx hy)
theorem ypE{f:Int→Bs}{code:Bs}:∀{l:List Int},(∀y∈l,f y≠code)→zmL f code l=(0,false)
 |[],_=>rfl
 |s::l,h=>by
  unfold zmL
  rw[beq_false_of_ne (h s (List.mem_cons_self ..)),cond_false,ypE fun y hy=>h y (List.mem_cons_of_mem _ hy)]
theorem ykD{f:Int→Bs}{code:Bs}{x:Int}{r:List Int}(hx:f x=code):∀{l:List Int},(∀y∈l,f y≠code)→zmL f code (l++x::r)=(x,true)
 |[],_=>by simp[zmL,hx]
 |s::l,h=>by
  simp only[List.cons_append]
  unfold zmL
  rw[beq_false_of_ne (h s (List.mem_cons_self ..)),cond_false,ykD hx fun y hy=>h y (List.mem_cons_of_mem _ hy)]
set_option maxRecDepth 100000 in
set_option maxHeartbeats 2000000 in
theorem find_c{S:Mem}{w:World}(hG:GS G S)(hS:Sub S w){secret code:Bs}(hs:secret.length≤68719470000)(hc:code.length≤68719476736)(step window:Int):
  Calls Tryz.prog 52 #[str secret,str code,.int .i64 step,.int .i64 window] w fun e w'=>e = .returned (.tuple #[.int .i64 (zmL (codeF secret) code (Fd.stepsL step window)).1,.bool (zmL (codeF secret) code (Fd.stepsL step window)).2])∧Ext w w':=by
 refine(callsIn_wide (n:=5)).1 ?_
 refine callsIn_of_wp_marks Tryz.func52 rfl trivial ?_ rfl
 simp only[Tryz.ntmps52,List.size_toArray,List.length_cons,List.length_nil,Nat.reduceAdd,Nat.reduceSub,Array.replicate_succ,Array.replicate_zero,List.push_toArray,List.append_toArray,List.nil_append,List.cons_append]
 gi_wp2_with (refine⟨trivial,?_⟩;gi_at_call 96;refine(Fd.steps_in Fence.wide _ trivial rfl _ _ _).mono ?_;rintro e w' ⟨rfl,rfl⟩)
 obtain⟨W0,hW0⟩:∃W0,((((((w.alloc (.cells #[str secret] 9)).alloc (.cells #[str code] 9)).alloc (.cells #[Value.int .i64 0] 3)).alloc (.cells #[.bool false] 4)).alloc (.cells #[Value.int .i64 step] 3)).alloc (.cells #[Value.int .i64 window] 3))=W0:=⟨_,rfl⟩
 have hs0:W0.heap.size=w.heap.size+6:=by rw[←hW0];simp
 have hB0:Below w.heap.size w W0:=by
  rw[←hW0]
  exact((((((Below.refl _ w).alloc (Nat.le_refl _) _).alloc (by simp) _).alloc (by simp;omega) _).alloc (by simp;omega) _).alloc (by simp;omega) _).alloc (by simp;omega) _
 have c0:=zqK w (str secret) 9
 have c1:=zqK (w.alloc (.cells #[str secret] 9)) (str code) 9
 have c2:=zqK ((w.alloc (.cells #[str secret] 9)).alloc (.cells #[str code] 9)) (.int .i64 0) 3
 have c3:=zqK (((w.alloc (.cells #[str secret] 9)).alloc (.cells #[str code] 9)).alloc (.cells #[Value.int .i64 0] 3)) (.bool false) 4
 have c4:=zqK ((((w.alloc (.cells #[str secret] 9)).alloc (.cells #[str code] 9)).alloc (.cells #[Value.int .i64 0] 3)).alloc (.cells #[.bool false] 4)) (.int .i64 step) 3
 have c5:=zqK (((((w.alloc (.cells #[str secret] 9)).alloc (.cells #[str code] 9)).alloc (.cells #[Value.int .i64 0] 3)).alloc (.cells #[.bool false] 4)).alloc (.cells #[Value.int .i64 step] 3)) (.int .i64 window) 3
 simp only[World.size_alloc]at c1 c2 c3 c4 c5
 have e0:W0.cell? ⟨w.heap.size,0,none⟩=some (str secret):=by rw[←hW0];exact zbN _ (zbN _ (zbN _ (zbN _ (zbN _ c0.1))))
 have e1:W0.cell? ⟨w.heap.size+1,0,none⟩=some (str code):=by rw[←hW0];exact zbN _ (zbN _ (zbN _ (zbN _ c1.1)))
 have e2:W0.cell? ⟨w.heap.size+1+1,0,none⟩=some (.int .i64 0)∧W0.frozen? ⟨w.heap.size+1+1,0,none⟩=false:=by rw[←hW0];exact⟨zbN _ (zbN _ (zbN _ c2.1)),zkH _ (zbN _ (zbN _ c2.1)) (zkH _ (zbN _ c2.1) (zkH _ c2.1 c2.2))⟩
 have e3:W0.cell? ⟨w.heap.size+1+1+1,0,none⟩=some (.bool false)∧W0.frozen? ⟨w.heap.size+1+1+1,0,none⟩=false:=by rw[←hW0];exact⟨zbN _ (zbN _ c3.1),zkH _ (zbN _ c3.1) (zkH _ c3.1 c3.2)⟩
 have e4:W0.cell? ⟨w.heap.size+1+1+1+1,0,none⟩=some (.int .i64 step):=by rw[←hW0];exact zbN _ c4.1
 have e5:W0.cell? ⟨w.heap.size+1+1+1+1+1,0,none⟩=some (.int .i64 window):=by rw[←hW0];exact c5.1
 clear c0 c1 c2 c3 c4 c5
 rw[hW0]
 clear hW0
 refine wpIn_rangeFunc_ownF rfl (by omega) (gf:=123) (lb:=#[.pointer (some ⟨w.heap.size+1+1+1+1,0,none⟩),.pointer (some ⟨w.heap.size+1+1+1+1+1,0,none⟩)]) rfl trivial (enters_of Tryz.func123 (by kernel_rfl) rfl)
  (Fd.steps_stops Fence.wide _ trivial rfl (by omega) (w.heap.size+1+1+1+1) (w.heap.size+1+1+1+1+1) W0.heap.size step window W0 (by omega) (by omega) (Nat.le_refl _) e4 e5) belowK_t (belowK_b (Nat.le_refl _)) (Below.refl _ _) (fun _=>rfl)
  (fun pre W=>(W0.heap.size≤W.heap.size∧(∀y∈pre,codeF secret y≠code)∧W.cell? ⟨w.heap.size,0,none⟩=some (str secret)∧W.cell? ⟨w.heap.size+1,0,none⟩=some (str code)∧(W.cell? ⟨w.heap.size+1+1,0,none⟩=some (.int .i64 0)∧W.frozen? ⟨w.heap.size+1+1,0,none⟩=false)∧(W.cell? ⟨w.heap.size+1+1+1,0,none⟩=some (.bool false)∧W.frozen? ⟨w.heap.size+1+1+1,0,none⟩=false))∧Below w.heap.size w W)
  (fun c pre W=>(c = .ret∧(∃pre0 x,pre=pre0++[x]∧(∀y∈pre0,codeF secret y≠code)∧codeF secret x=code∧W.cell? ⟨w.heap.size+1+1,0,none⟩=some (.int .i64 x))∧W.cell? ⟨w.heap.size+1+1+1,0,none⟩=some (.bool true))∧Below w.heap.size w W)
  (OwnFrom.and (Own.from (fun s A B row hs hg hr=>⟨Nat.le_trans hs.1 hg.size,hs.2.1,cell_kept hs.2.2.1 hg hr,cell_kept hs.2.2.2.1 hg hr,⟨cell_kept hs.2.2.2.2.1.1 hg hr,(frozen_kept hs.2.2.2.2.1.1 hg hr).trans hs.2.2.2.2.1.2⟩,⟨cell_kept hs.2.2.2.2.2.1 hg hr,(frozen_kept hs.2.2.2.2.2.1 hg hr).trans hs.2.2.2.2.2.2⟩⟩) _) (ownFrom_below (Nat.le_refl _) (by omega)))
  (fun c=>OwnFrom.and (Own.from (fun s A B row hs hg hr=>by
   obtain⟨h1,⟨p0,x,h2,h3,h4,h5⟩,h6⟩:=hs
   exact⟨h1,⟨p0,x,h2,h3,h4,cell_kept h5 hg hr⟩,cell_kept h6 hg hr⟩) _) (ownFrom_below (Nat.le_refl _) (by omega)))
  ⟨⟨Nat.le_refl _,by simp,e0,e1,e2,e3⟩,hB0⟩
  (fun x=>{ tmps:=#[str secret,str code,.int .i64 step,.int .i64 window,.pointer (some ⟨w.heap.size,0,none⟩),.pointer (some ⟨w.heap.size+1,0,none⟩),undef,undef,.pointer (some ⟨w.heap.size+1+1,0,none⟩),.pointer (some ⟨w.heap.size+1+1+1,0,none⟩),.int .i64 x,.int .i64 step,.int .i64 window,.func (.func 123) #[] #[.pointer (some ⟨w.heap.size+1+1+1+1,0,none⟩),.pointer (some ⟨w.heap.size+1+1+1+1+1,0,none⟩)],.int .i64 x,undef,undef,undef,undef,undef,undef],defers:=[] }) ?assign ?body ?done ?stop
 case assign=>
  intro l x W K hK
  gi_wp2
  exact hK
 case body=>
  rintro l pre x W ⟨⟨hW0,hp,h0,h1,⟨h2,g2⟩,h3,g3⟩,hB⟩ _
  have hmx:Tryz.prog.follows .mixedOrders=true:=by kernel_rfl
  have hd:1≤5-1-1:=by omega
  gi_wp2
  gi_region_with_o (first
   |(refine⟨trivial,?_⟩;gi_at_call 23;refine(CallsIn.inRound l (callsIn_wide.2 (yqO (G:=G) hs x (by first|exact yoY hG hS hB|exact yoY hG hS hB.drew)))).mono ?_;rintro e w' ⟨rfl,hx1⟩;have k1:=zvT hx1 h1)
   |(refine⟨trivial,?_⟩;gi_at_call 49;refine(CallsIn.inRound l (callsIn_wide.2 (yrK (Nat.le_trans (yfX hs x).2 (by omega)) hc))).mono ?_;rintro e w' ⟨rfl,hx2⟩))
  all_goals
   have hxx:=(Ext.drew W).trans (hx1.trans hx2)
   have m2:=zvT hxx h2
   have n2:=ydQ hxx h2 g2
   have m3:=zvT hxx h3
   have n3:=ydQ hxx h3 g3
   clear k1 hx1 hx2
   gi_wp2
   ·rename_i hx
    have ne:(⟨w.heap.size+1+1+1,0,none⟩:Addr)≠⟨w.heap.size+1+1,0,none⟩:=fun e=>by injection e;omega
    exact⟨(yiN hxx).trans ((KeepsOthers.setCell _ _ _).trans (KeepsOthers.setCell _ _ _)),
     ⟨rfl,⟨pre,x,rfl,hp,eq_of_beq hx,(World.cell?_setCell_other _ _ _ _ ne).trans (World.cell?_setCell_same _ _ _ m2)⟩,World.cell?_setCell_same _ _ _ ((World.cell?_setCell_other _ _ _ _ ne.symm).trans m3)⟩,
     ((hB.trans (Below.mono hxx hB.size)).setCell (p:=⟨w.heap.size+1+1,0,none⟩) (by simp;omega) _).setCell (p:=⟨w.heap.size+1+1+1,0,none⟩) (by simp;omega) _⟩
   ·rename_i hx
    refine⟨yiN hxx,Below.mono hxx ?_,⟨Nat.le_trans hW0 hxx.size,fun y hy=>(List.mem_append.1 hy).elim (hp y) (fun e e'=>by simp at e;subst e;simp[e']at hx),zvT hxx h0,zvT hxx h1,⟨m2,n2⟩,m3,n3⟩,hB.trans (Below.mono hxx hB.size)⟩
    exact hW0
 case done=>
  rintro D ys W hD rfl ⟨⟨_,hne,h0,h1,⟨h2,g2⟩,h3,g3⟩,hB⟩ hK
  gi_wp2
  have ne:(⟨w.heap.size+1+1+1,0,none⟩:Addr)≠⟨w.heap.size+1+1,0,none⟩:=fun e=>by injection e;omega
  have hK':=((KeepsOthers.setCell W ⟨w.heap.size+1+1,0,none⟩ (.int .i64 0)).trans (KeepsOthers.setCell _ ⟨w.heap.size+1+1+1,0,none⟩ (.bool false))).same D _ hK rfl
  have q2:=(World.cell?_setCell_other _ ⟨w.heap.size+1+1+1,0,none⟩ _ (.bool false) ne).trans (World.cell?_setCell_same _ _ (.int .i64 0) h2)
  have q3:=World.cell?_setCell_same (W.setCell ⟨w.heap.size+1+1,0,none⟩ (.int .i64 0)) _ (.bool false) ((World.cell?_setCell_other _ _ _ _ ne.symm).trans h3)
  refine⟨by simp,.inl ⟨_,_,rfl,run_takeDeferred hK',?_⟩⟩
  have r2:=cell_kept q2 (grownBy_putObj' _ D (.deferred none)) (fun r e=>by cases e;exact⟨_,hK',rfl⟩)
  have r3:=cell_kept q3 (grownBy_putObj' _ D (.deferred none)) (fun r e=>by cases e;exact⟨_,hK',rfl⟩)
  refine⟨.tuple #[.int .i64 0,.bool false],?_,by rw[ypE hne],((hB.setCell (p:=⟨w.heap.size+1+1,0,none⟩) (by simp;omega) _).setCell (p:=⟨w.heap.size+1+1+1,0,none⟩) (by simp;omega) _).trans (belowK_b (w:=w) (Nat.le_refl _) _ D _ _ (by omega) hK' rfl rfl)⟩
  simp[results,Tryz.f52,go_sem,r2,r3]
 case stop=>
  rintro D c pre W hD ⟨post,hpre⟩ ⟨⟨rfl,⟨p0,x,rfl,h2,h3,h4⟩,h5⟩,hB⟩ hK
  gi_wp2
  refine⟨by simp,.inl ⟨_,_,rfl,run_takeDeferred hK,?_⟩⟩
  have r2:=cell_kept h4 (grownBy_putObj' _ D (.deferred none)) (fun r e=>by cases e;exact⟨_,hK,rfl⟩)
  have r3:=cell_kept h5 (grownBy_putObj' _ D (.deferred none)) (fun r e=>by cases e;exact⟨_,hK,rfl⟩)
  have hf:zmL (codeF secret) code (Fd.stepsL step window)=(x,true):=by
   rw[←hpre,List.append_assoc]
   exact ykD h3 h2
  refine⟨.tuple #[.int .i64 x,.bool true],?_,by rw[hf],hB.trans (belowK_b (w:=w) (Nat.le_refl _) W D _ _ (by omega) hK rfl rfl)⟩
  simp[results,Tryz.f52,go_sem,r2,r3]
def ymB:PC:=⟨[.h .s,.h .s,.h (.i .i64),.h (.i .i64)],[.i .i64,.b],fun x=>yjU x.1 x.2.1 x.2.2.1 x.2.2.2,false⟩
theorem ynK:PCok Tryz.prog G 52 ymB:=by
 refine⟨isFn Tryz.func52 (by kernel_rfl) (by kernel_rfl),fun S0 w0 us (x:Bs×Bs×Int×Int) (y:Int×Bool) hG hS ha hy=>?_⟩
 have ha:A2 (VR S0 []) [svOf .s x.1,svOf .s x.2.1,svOf (.i .i64) x.2.2.1,svOf (.i .i64) x.2.2.2] us:=ha
 have hy:yjU x.1 x.2.1 x.2.2.1 x.2.2.2=some y:=hy
 unfold yjU at hy
 obtain⟨hb,hy⟩:=zaF hy
 simp only[Bool.and_eq_true,decide_eq_true_eq]at hb
 cases hy
 cases ha with
 |cons q1 q2=>
  cases q2 with
  |cons q2 q3=>
   cases q3 with
   |cons q3 q4=>
    cases q4 with
    |cons q4 q5=>
     cases q5
     rw[zqB (t:=.s) rfl q1,zqB (t:=.s) rfl q2,zqB (t:=.i .i64) rfl q3,zqB (t:=.i .i64) rfl q4]
     exact(find_c hG hS hb.1 hb.2 x.2.2.1 x.2.2.2).mono fun e w' ⟨he,hx⟩=>⟨hx,_,he,zvY (l:=[.i .i64,.b]) (x:=zmL (codeF x.1) x.2.1 (Fd.stepsL x.2.2.1 x.2.2.2)) rfl,fun h=>by cases h⟩
end
end Go.Proofs.YtmkomlbiaebddaaGreatDoor.Am
namespace Go.Proofs.YtmkomlbiaebddaaGreatDoor.Am
open Go Go.RowKit
structure Ops where
 stretch:Bs→Bs→Int→Int→Option (Bs×Int)
 code:Bs→Int→Option Bs
 find:Bs→Bs→Int→Int→Option (Int×Bool)
 same:Bs→Bs→Option (Bool)
 itoa:Int→Option Bs
 atoi:Bs→Option (Int×Bool)
 trim:Bs→Bs→Option Bs
 cut:Bs→Bs→Option (Bs×Bs×Bool)
 form:(List Bs)→Option Bs
def yeL(o:Ops):PC:=⟨[(.h .s),(.h .s),(.h (.i .i64)),(.h (.i .i64))],[.s,(.i .i64)],fun x=>o.stretch x.1 x.2.1 x.2.2.1 x.2.2.2,false⟩
def ylI(o:Ops):PC:=⟨[(.h .s),(.h (.i .i64))],[.s],fun x=>o.code x.1 x.2,false⟩
def ywZ(o:Ops):PC:=⟨[(.h .s),(.h .s),(.h (.i .i64)),(.h (.i .i64))],[(.i .i64),.b],fun x=>o.find x.1 x.2.1 x.2.2.1 x.2.2.2,false⟩
def yxK(o:Ops):PC:=⟨[(.h .s),(.h .s)],[.b],fun x=>o.same x.1 x.2,false⟩
def ysO(o:Ops):PC:=⟨[(.h (.i .i64))],[.s],fun x=>o.itoa x,false⟩
def ynA(o:Ops):PC:=⟨[(.h .s)],[(.i .i64),.er],fun x=>o.atoi x,false⟩
def yhK(o:Ops):PC:=⟨[(.h .s),(.h .s)],[.s],fun x=>o.trim x.1 x.2,false⟩
def xdR(o:Ops):PC:=⟨[(.h .s),(.h .s)],[.s,.s,.b],fun x=>o.cut x.1 x.2,false⟩
def ysP(o:Ops):PC:=⟨[(.h (.sl .s))],[.s],fun x=>o.form x,false⟩
class zkN (G:List (Nat×Obj)) (o:Ops):Prop where
 stretch:PCok Tryz.prog G 92 (yeL o)
 code:PCok Tryz.prog G 23 (ylI o)
 find:PCok Tryz.prog G 52 (ywZ o)
 same:PCok Tryz.prog G 49 (yxK o)
 itoa:PCok Tryz.prog G 39 (ysO o)
 atoi:PCok Tryz.prog G 110 (ynA o)
 trim:PCok Tryz.prog G 109 (yhK o)
 cut:PCok Tryz.prog G 106 (xdR o)
 form:PCok Tryz.prog G 40 (ysP o)
theorem witO{p:Prop}{G:List (Nat×Obj)}{o:Ops}[zlD G][zkN G o](h:p):p:=h
def zaD:Ops:=⟨zfD,ziF,yjU,ywJ,ydF,yzU,yiR,cutP,ziH⟩
instance yqA {G:List (Nat×Obj)} [zlD G]:zkN G zaD:=⟨ycM,yaI,ynK,ylA,ztF,ybY,ycG,ydA,ycY⟩
section
variable {τ:TE}{P:Program}{G:List (Nat×Obj)}
theorem xbU{f:FuncId}{fn:Func}{c:Code}{e:Ty}{T:TypeId}(hm:P.follows .mixedOrders=true)(hτ:TEok P τ)(hf:P.funcs[f]? = some fn)(hfn:IsFn P f)(hb:fn.body=some c)(hl:Nat.ble 1 fn.ntmps=true)(hr:Nat.beq fn.results.toList.length 1=true)
  (h1:run 0 fn.ntmps τ ⟨[],[],false,[]⟩ [] c ⟨[(0,.nils)],[]⟩ (finS τ fn 0 [(none,⟨[(0,.nils)],[]⟩)])=some ())
  (h2:∀xs:List (den e),run 0 fn.ntmps τ ⟨[],[],false,[]⟩ [] c ⟨[(0,.nn e xs)],[]⟩ (finS τ fn 0 [(none,⟨[(0,.own 0)],[.osl e T]⟩)])=Option.bind (app [] xs) fun r=>some r):
  SCok P G f ⟨⟨[(0,.h (.sl e))],[]⟩,1,[(none,⟨[(0,.own 0)],[.osl e T]⟩)],fun xs=>app [] xs⟩:=by
 refine⟨hfn,fun S0 w0 us E0 L0 (xs:List (den e)) (d:List (den e)) _ hul R hy=>?_⟩
 have hy:app [] xs=some d:=hy
 have hul:us.length=1:=hul
 have hle:us.length≤fn.ntmps:=by rw[hul];exact Nat.le_of_ble_eq_true hl
 obtain⟨u,rfl⟩:∃u,us=[u]:=by
  match us,hul with
  |[u],_=>exact⟨u,rfl⟩
 have hu:VB S0 E0 (.v (.sl e) xs) u:=R.sl 0
 obtain⟨v,hv,hrd⟩:=hu
 injection hv with hv
 subst hv
 have re:∀{x:SV},VR S0 E0 x u→RelV ⟨S0,zbJ L0,w0⟩ S0 E0 L0 ⟨[(0,x)],[]⟩ (fun t=>[u].getD t undef) w0:=fun {x} hx=>⟨R.hs,R.lL,R.lE,R.obj,fun t=>by
  cases t with
  |zero=>exact hx
  |succ t=>trivial⟩
 by_cases hn:∃n c,u = .slice none n c
 ·have hu0:u = .slice none 0 0∧xs=[]:=by
   obtain⟨cs,k1,k2⟩:=hrd
   obtain⟨n,c',hn⟩:=hn
   rcases k1 with⟨⟨a0,k1⟩,k3,_⟩|⟨b',o,c2,ds,T2,fz,k1,_⟩
   ·rw[hn]at k1;injection k1 with _ e2 e3
    exact⟨by rw[hn,e2,e3],List.eq_nil_of_length_eq_zero k3⟩
   ·rw[hn]at k1;cases k1
  obtain⟨rfl,rfl⟩:=hu0
  have hd:d=[]:=ylG hy
  subst hd
  refine(ynE hm hτ (ctok (G:=[]) (pc:=[]) (sc:=[]) (k:=false) trivial trivial _ (fun _ h=>by cases h)) hf hb hle hr (re (x:=.nils) rfl) h1).mono fun e' w' ⟨v,he,S',E',L',σo,V',ho,hS,hP,R',hv0,hn0,hres⟩=>?_
  have hσ:σo=⟨[(0,.nils)],[]⟩:=by
   have:=ho (γ:=St) fun _ σ=>some σ
   exact(osi this).symm
  subst hσ
  have hl':L'.length=0:=R'.lL
  have hE':E'.length=0:=R'.lE
  have e1:L'=[]:=List.eq_nil_of_length_eq_zero hl'
  have e2:E'=[]:=List.eq_nil_of_length_eq_zero hE'
  subst e1;subst e2
  have h0:V' 0 = .slice none 0 0:=R'.sl 0
  refine⟨v,he,S',[.osl 0 (.slice none 0 0) (tsz e)],[.osl (.slice none 0 0) 0 (tsz e) [] [] T],⟨[(0,.own 0 0)],[.osl 0 e T []]⟩,V',fun k=>?_,hS,fun k e hk=>absurd hk (Nat.not_lt_zero k),⟨HS.nil R'.hs _ _,rfl,rfl,fun i o h=>?_,fun t=>?_⟩,?_,Nat.zero_le _,hres⟩
  ·show k (exOf none) _=_
   have:(Shp.put (⟨[(0,.own 0)],[.osl e T]⟩:Shp) ([]:List (den e)))=⟨[(0,.own 0 0)],[.osl 0 e T []]⟩:=by
    obtain⟨q,hq⟩:=zdX e
    have e0:∀y:den (.sl e),zdA [.osl e T] [.v (.sl e) y]=[.osl 0 e T y]:=fun y=>by
     rw[zdA,hq];rfl
    have e1:zdA [.osl e T] [.v (.sl e) ([]:List (den e))]=[.osl 0 e T []]:=e0 _
    exact congrArg (fun hp=>(⟨[(0,.own 0 0)],hp⟩:St)) e1
   rw[this];rfl
  ·cases i with
   |zero=>cases h;exact⟨_,_,rfl,rfl,.slice none 0 0,.slice none 0 0,[],[],rfl,rfl,rfl,.inl rfl⟩
   |succ i=>cases h
  ·cases t with
   |zero=>exact VR.ofC (show VC S' _ (.own 0 0) (V' 0) by rw[h0];exact⟨rfl,_,rfl,fun r v s he=>by cases he;exact⟨Nat.le_refl 0,fun _=>rfl⟩⟩)
   |succ t=>trivial
  ·intro i ver e' T' xs h
   cases i with
   |zero=>cases h;rfl
   |succ i=>cases h
 ·exact(ynE hm hτ (ctok (G:=[]) (pc:=[]) (sc:=[]) (k:=false) trivial trivial _ (fun _ h=>by cases h)) hf hb hle hr (re (x:=.nn e xs) ⟨hrd,fun n c h=>hn ⟨n,c,h⟩⟩) ((h2 xs).trans (by rw[hy];rfl))).mono fun _ _ h=>h
def finC(τ:TE)(f:Func)(e:Ty)(ex:Ex)(σ:St):Option (List (den e)):=match ex with
 |.exit _=>none
 |_=>match zxY τ σ f.results.toList with
  |some [.cl e' xs]=>match tyEq e' e with
   |some ⟨h⟩=>some (zjT (by rw[h]:Ty.sl e'=Ty.sl e) (show den (.sl e')from xs))
   |none=>none
  |_=>none
theorem ylS{f:FuncId}{fn:Func}{c:Code}{e:Ty}(hm:P.follows .mixedOrders=true)(hτ:TEok P τ)(hf:P.funcs[f]? = some fn)(hfn:IsFn P f)(hb:fn.body=some c)(hl:Nat.ble 1 fn.ntmps=true)
  (h1:∀xs:List (den e),run 0 fn.ntmps τ ⟨[],[],false,[]⟩ [] c ⟨[(0,.v (.sl e) xs)],[]⟩ (finC τ fn e)=Option.bind (chk (decide ((xs.length:Int)=(xs.length:Int)))) fun _=>Option.bind (subH xs (xs.length:Int)) fun r=>some r):
  PCok P G f ⟨[.h (.sl e)],[.sl e],fun xs=>some xs,true⟩:=by
 refine⟨hfn,fun S0 w0 us (xs:List (den e)) (y:List (den e)) _ hS ha hy=>?_⟩
 have hxy:xs=y:=osi hy
 subst hxy
 have ha:A2 (VR S0 []) [SV.v (.sl e) xs] us:=ha
 have h2:run 0 fn.ntmps τ ⟨[],[],false,[]⟩ [] c ⟨[(0,.v (.sl e) xs)],[]⟩ (finC τ fn e)=some xs:=by
  rw[h1 xs]
  have h3:subH xs (xs.length:Int)=some xs:=by
   unfold subH
   simp
  simp[chk,h3]
 have hul:us.length=1:=by rw[←ha.len];rfl
 refine enter hf hb rfl (by rw[hul];exact hl) ?_
 have R0:Rel fn.ntmps ⟨S0,[],w0⟩ S0 [] [] ⟨argS 0 [SV.v (.sl e) xs],[]⟩ (argm us 0) w0:=by
  refine⟨HS.start hS,rfl,rfl,fun i o h=>by simp at h,fun t=>?_⟩
  show VR S0 [] (lkS (argS 0 [SV.v (.sl e) xs]) t) (bif Nat.blt t fn.ntmps then look (argm us 0) t else undef)
  cases ht:Nat.blt t fn.ntmps with
  |true=>exact yxW 0 t ha
  |false=>
   rw[zjE]at ht
   have h1:=of_decide_eq_false ht
   have h2:=Nat.le_of_ble_eq_true hl
   rw[yaF (by simp;omega)]
   trivial
 refine zsD hm hτ (ctok (G:=[]) (pc:=[]) (sc:=[]) (k:=false) trivial trivial _ (fun _ h=>by cases h)) c R0 (finC τ fn e) xs _ h2 fun ex σ' S' E' L' m' w' h1 _ _ _ R1=>?_
 have key:∀(_:(match zxY τ σ' fn.results.toList with
   |some [.cl e' xs]=>match tyEq e' e with
    |some ⟨h⟩=>some (zjT (by rw[h]:Ty.sl e'=Ty.sl e) (show den (.sl e')from xs))
    |none=>none
   |_=>none)=some xs),(fr fn.ntmps m').defers=[]∧∃v,(results fn (fr fn.ntmps m').tmps).run P w' = .ok v w'∧Ext w0 w'∧repR (gr S0 w0 w') [.sl e] v xs∧∃a n,v = .slice a n n:=fun h1=>by
  split at h1
  ·rename_i e' ys hl1
   split at h1
   ·rename_i hh _
    subst hh
    have hys:ys=xs:=osi h1
    subst hys
    obtain⟨vs,h3,h4⟩:=zzY (P:=P) hτ R1 hl1
    obtain⟨v,rfl,h5⟩:=h3.one
    obtain⟨h5,a,h6⟩:=(show VB S' E' (.cl e' ys) v from h5)
    refine⟨rfl,v,?_,R1.hs.toExt,⟨v,rfl,RdS.mono h5 R1.hs.gr⟩,a,_,h6⟩
    rw[zqI,Array.mapM_eq_mapM_toList]
    simp only[Sem.run_bind,Sem.run_map,h4,Result.andThen_ok,Sem.run_pure]
    rfl
   ·cases h1
  ·cases h1
 cases ex with
 |normal=>
  obtain⟨h2,v,h3,h4,h5,h6⟩:=key h1
  exact⟨h2,v,h3,h4,v,rfl,h5,fun _=>h6⟩
 |ret=>
  obtain⟨h2,v,h3,h4,h5,h6⟩:=key h1
  exact⟨h2,v,h3,h4,v,rfl,h5,fun _=>h6⟩
 |exit i=>cases h1
end
end Go.Proofs.YtmkomlbiaebddaaGreatDoor.Am
namespace Go.Proofs.YtmkomlbiaebddaaGreatDoor.Am
open Go Go.RowKit Go.Maps Go.Sort
open Go.WideElems (Fit rd rg)
def zyT:List Bs→Bool
 |x::y::l=>Op.bytesLess x y&&zyT (y::l)
 |_=>true
def yaJ{α:Type}(es:List (Bs×α)):Bool:=decide (es.length≤1048576)&&(es.all (fun p=>decide (p.1.length≤68719476736))&&zyT (es.map (·.1)))
def yaD{α:Type}(es:List (Bs×α)):Option (List Bs×List (Bs×α)):=bif yaJ es then some (es.map (·.1),es)else none
theorem yfM:∀{l:List Bs},zyT l=true→l.Pairwise fun x y=>x<y
 |[],_=>.nil
 |[x],_=>List.pairwise_singleton _ _
 |x::y::l,h=>by
  unfold zyT at h
  rw[Bool.and_eq_true,bytesLess_eq,decide_eq_true_eq]at h
  have ih:=yfM (l:=y::l) h.2
  refine List.pairwise_cons.2 ⟨fun z hz=>?_,ih⟩
  rcases List.mem_cons.1 hz with rfl|hz
  ·exact h.1
  ·exact List.lt_trans h.1 ((List.pairwise_cons.1 ih).1 z hz)
theorem ysB{l:List Bs}(h:zyT l=true):l.mergeSort (fun x y=>decide (x≤y))=l:=by
 refine List.mergeSort_of_pairwise ((yfM h).imp fun {a b} hab=>?_)
 simp only[decide_eq_true_eq]
 exact List.le_of_lt hab
def anyV:Value→Option (DataW Unit×List MemPlace):=fun _=>some (.nil,[])
section
variable {P:Program}{S:Mem}
theorem yoP{V:Ty}{kT:TypeId}(hk:P.underlying kT=some .string):∀{l:List (Bs×den V)} {ents:List MapEntry},A2 (fun(p:Bs×den V) en=>rep1 .s S en.key p.1∧rep1 V S en.val p.2) l ents→(∀p∈l,p.1.length≤68719476736)→ents.map (·.key)=l.map (fun p=>str p.1)∧(∀x∈ents,∃y,Go.WideElems.rd P kT anyV x=some y)∧(ents.map (Go.WideElems.rg P kT anyV)).map (fun p=>strOf p.1)=l.map (·.1)
 |_,_,.nil,_=>⟨rfl,fun _ h=>(by cases h),rfl⟩
 |p::l,en::ents,.cons a r,hs=>by
  obtain⟨i1,i2,i3⟩:=yoP hk r fun q hq=>hs q (List.mem_cons_of_mem _ hq)
  have hkey:en.key=str p.1:=by have h:[en.key]=[str p.1]:=a.1;injection h
  have hp:=hs p List.mem_cons_self
  have hr:Go.WideElems.rd P kT anyV en=some (.string p.1,.nil):=by
   unfold Go.WideElems.rd
   rw[hkey]
   have:=Go.WideMaps.keyOf_string_mk (P:=P) (k:=kT) hk (s:=⟨p.1.toArray⟩) (by show p.1.toArray.size≤_;simp[maxLen];omega)
   show(keyOf P kT (.string ⟨p.1.toArray⟩)).bind _=_
   rw[this]
   rfl
  refine⟨by rw[List.map_cons,List.map_cons,i1,hkey],fun x hx=>?_,?_⟩
  ·rcases List.mem_cons.1 hx with rfl|hx
   ·exact⟨_,hr⟩
   ·exact i2 x hx
  ·rw[List.map_cons,List.map_cons,List.map_cons,i3]
   congr 1
   unfold Go.WideElems.rg
   rw[hr]
   rfl
theorem yyU{V:Ty}{kT:TypeId}{w:World}{b ck:Nat}{es:List (Bs×den V)}{ents:List MapEntry}(hk:P.underlying kT=some .string)(hm:MR S .s V es ents)(hb:∀en∈ents,en.born<ck)(hh:w.heap[b]? = some (.map ents.toArray ck))(ho:yaJ es=true):
  ∃D0:DataW Unit,w.ownsMap P kT anyV b es.length D0∧Maps.size D0=es.length∧(strKeys D0).Perm (es.map (·.1)):=by
 obtain⟨(l:List (Bs×den V)),(hl:l.Perm es),hA⟩:=hm.perm
 unfold yaJ at ho
 simp only[Bool.and_eq_true,decide_eq_true_eq,List.all_eq_true]at ho
 obtain⟨h1,h2,h3⟩:=ho
 have hlen:ents.length=es.length:=by rw[←hA.len];exact hl.length_eq
 obtain⟨k1,k2,k3⟩:=yoP hk hA fun p hp=>h2 p (hl.mem_iff.1 hp)
 have hnd:(es.map (·.1)).Nodup:=(yfM h3).imp fun {a b} hab e=>by subst e;exact List.lt_irrefl _ hab
 refine⟨_,⟨ents.toArray,ck,hh,⟨by simp[maxLen];omega,⟨by simpa using hb,by simpa using hm.nd,?_⟩,by simpa using k2⟩,by simp[hlen],rfl⟩,?_,?_⟩
 ·have e1:l.map (fun p=>str p.1)=(l.map (·.1)).map str:=by rw[List.map_map];rfl
  simp only[]
  rw[k1,e1]
  refine List.Pairwise.map _ (fun a b hab e=>hab (ycU e)) ((hl.map _).nodup_iff.2 hnd)
 ·show((ents.map (Go.WideElems.rg P kT anyV)).foldr DataW.insert []).length=_
  rw[length_sorted,List.length_map,hlen]
 ·show(((ents.map (Go.WideElems.rg P kT anyV)).foldr DataW.insert []).map fun p=>strOf p.1).Perm _
  refine((Go.WideShapes.sorted_perm _).map _).trans ?_
  rw[k3]
  exact hl.map _
theorem ywR:∀(l:List Bs),@RL (den .s) (rpD .s) S (l.map encStr) l
 |[]=>rfl
 |x::l=>⟨[str x],l.map encStr,rfl,(rfl:[_]=[_]),ywR l⟩
theorem row_rd{w':World}{base n:Nat}{sT:TypeId}{v:Value}{ks:List Bs}(hn:ks.length=n)(hrow:w'.ownsRow base sT 1 v n (ks.map encStr))(hm:∀b,base≤b→S b=w'.heap[b]?):@RdS (den .s) (rpD .s) S v ks:=by
 subst hn
 refine⟨ks.map encStr,?_,ywR ks⟩
 obtain⟨g1,g2⟩:=hrow
 show SlS S v ks.length 1 (ks.map encStr)
 rcases g2 with⟨rfl,g3⟩|⟨gb,cap,cur,rfl,g3,g4,g5,g6,g7,g8⟩
 ·have:ks=[]:=List.eq_nil_of_length_eq_zero g3
  subst this
  exact .inl ⟨⟨_,rfl⟩,rfl,rfl⟩
 ·refine .inr ⟨gb,0,cap,cur.toList,sT,(0,0),rfl,g5,?_,?_,?_⟩
  ·rw[hm gb g3,g4]
  ·have:cur.toList.length=cap*1:=by simpa using g7
   rw[this];omega
  ·rw[zaK,List.drop_zero];exact g8
theorem ywI{G:List (Nat×Obj)}{f g:FuncId}{mT kT sT:TypeId}{V:Ty}(hfn:IsFn P f)(hk:P.underlying kT=some .string)
  (hS:∀(Bm b nn:Nat) (D0:DataW Unit) (w:World),Bm<w.heap.size→w.cell? ⟨Bm,0,none⟩=some (.map (some b))→w.ownsMap P kT anyV b nn D0→Maps.size D0≤maxLen→Maps.size D0*16≤140737488355328 →
   Calls P f #[.func (.func g) #[] #[.pointer (some ⟨Bm,0,none⟩)]] w fun e w'=>∃(v:Value) (ss:List Bs),e = .returned v∧ss.Perm (strKeys D0)∧w'.ownsRow w.heap.size sT 1 v ss.length ((ss.mergeSort (fun x y=>decide (x≤y))).map encStr)∧(v = .slice none 0 0↔ss=[])∧Below w.heap.size w w'):
  SCok P G f ⟨⟨[(0,.fn g [] [.ptr 0 0])],[.blk mT [.mpr 1],.mp true .s V]⟩,1,[(none,⟨[(0,.h (.sl .s))],[.blk mT [.mpr 1],.mp true .s V]⟩)],fun(es:List (Bs×den V))=>yaD es⟩:=by
 refine⟨hfn,fun S0 w0 us E0 L0 (es:List (Bs×den V)) d _ hul R hy=>?_⟩
 have hy:(bif yaJ es then some (es.map (·.1),es)else none)=some d:=hy
 obtain⟨hok,hy⟩:=zaF hy
 have hd:d=(es.map (·.1),es):=(osi hy).symm
 subst hd
 have hul:us.length=1:=hul
 obtain⟨u,rfl⟩:∃u,us=[u]:=by
  match us,hul with
  |[u],_=>exact⟨u,rfl⟩
 obtain⟨q,hq⟩:=zdX (.mp .s V)
 have hput:(Shp.put (⟨[(0,.fn g [] [.ptr 0 0])],[.blk mT [.mpr 1],.mp true .s V]⟩:Shp) es)=⟨[(0,.fn g [] [.ptr 0 0])],[.blk mT [.mpr 1],.mp 0 .s V es]⟩:=by
  have e0:∀y:den (.mp .s V),zdA [.blk mT [.mpr 1],.mp true .s V] [.v (.mp .s V) y]=[.blk mT [.mpr 1],.mp 0 .s V y]:=fun y=>by
   simp only[zdA,yaX,Sh.putC,Sh.putB,hq]
   rfl
  exact congrArg (fun hp=>(⟨[(0,.fn g [] [.ptr 0 0])],hp⟩:St)) (e0 es)
 have hput2:(Shp.put (⟨[(0,.h (.sl .s))],[.blk mT [.mpr 1],.mp true .s V]⟩:Shp) ((es.map (·.1),es):List Bs×List (Bs×den V)))=⟨[(0,.v (.sl .s) (es.map (·.1)))],[.blk mT [.mpr 1],.mp 0 .s V es]⟩:=by
  have e0:∀y:den (.mp .s V),zdA [.blk mT [.mpr 1],.mp true .s V] [.v (.mp .s V) y]=[.blk mT [.mpr 1],.mp 0 .s V y]:=fun y=>by
   simp only[zdA,yaX,Sh.putC,Sh.putB,hq]
   rfl
  exact congrArg (fun hp=>(⟨[(0,.v (.sl .s) (es.map (·.1)))],hp⟩:St)) (e0 es)
 have R:RelV ⟨S0,zbJ L0,w0⟩ S0 E0 L0 ⟨[(0,.fn g [] [.ptr 0 0])],[.blk mT [.mpr 1],.mp 0 .s V es]⟩ (fun t=>[u].getD t undef) w0:=by rw[←hput];exact R
 obtain⟨r0,e0,a1,a2,b0,cs,rfl,rfl,a3⟩:=R.objN (i:=0) rfl
 obtain⟨c,rfl,a4⟩:=a3.one
 obtain⟨_,e1,a5,a6⟩:=(show VB S0 E0 (.mpr 1) c from a4)
 obtain⟨r1,e1',c1,c2,b,ents,ck,rfl,rfl,c3,c4⟩:=R.objN (i:=1) rfl
 rw[c2]at a5;cases a5
 have hc:=a6 _ _ _ _ rfl
 subst hc
 have hh0:w0.heap[b0]? = some (.cells [Value.map (some b)].toArray mT (0,0)):=R.hs.own 0 _ a1
 have hh1:w0.heap[b]? = some (.map ents.toArray ck):=R.hs.own 1 _ c1
 have hu:u = .func (.func g) #[] #[.pointer (some ⟨b0,0,none⟩)]:=by
  obtain⟨xs,ys,hu,h1,h2⟩:=(show VC S0 E0 (.fn g [] [.ptr 0 0]) u from R.sl 0)
  cases h1
  obtain⟨y,rfl,h3⟩:=h2.one
  obtain⟨b1,hy,e2,h4,h5⟩:=(show VB S0 E0 (.ptr 0 0) y from h3)
  rw[a2]at h4;cases h4
  cases h5 _ rfl
  rw[hu,hy]
 subst hu
 obtain⟨D0,d1,d2,d3⟩:=yyU (S:=S0) hk c3 c4 hh1 hok
 have hlen:es.length≤1048576:=by unfold yaJ at hok;simp only[Bool.and_eq_true,decide_eq_true_eq]at hok;exact hok.1
 have hrise:zyT (es.map (·.1))=true:=by unfold yaJ at hok;simp only[Bool.and_eq_true]at hok;exact hok.2.2
 have hcell:w0.cell? ⟨b0,0,none⟩=some (.map (some b)):=by simp[World.cell?,hh0]
 refine(hS b0 b es.length D0 w0 (Array.getElem?_eq_some_iff.1 hh0).1 hcell d1 (by rw[d2];simp[maxLen];omega) (by rw[d2];omega)).mono fun e w' ⟨v,ss,he,hp,hrow,hnil,hx⟩=>?_
 have hx:Ext w0 w':=hx
 have hss:ss.mergeSort (fun x y=>decide (x≤y))=es.map (·.1):=by
  rw[←ysB hrise]
  exact mergeSort_of_perm (hp.trans d3)
 have hsl:ss.length=es.length:=by rw[hp.length_eq,d3.length_eq,List.length_map]
 rw[hss,hsl]at hrow
 have R':=R.call hx
 have hv:VB (gr S0 w0 w') E0 (.v (.sl .s) (es.map (·.1))) v:=
  ⟨v,rfl,row_rd (List.length_map _) hrow fun b hb=>by unfold Go.Proofs.YtmkomlbiaebddaaGreatDoor.gr;rw[if_neg (by omega)]⟩
 refine⟨v,he,gr S0 w0 w',E0,L0,⟨[(0,.v (.sl .s) (es.map (·.1)))],[.blk mT [.mpr 1],.mp 0 .s V es]⟩,fun _=>v,fun k=>?_,yiF R.hs.sub,Pin.refl _ _,⟨R'.hs,R'.lL,R'.lE,R'.obj,fun t=>?_⟩,?_,Nat.le_refl _,rfl⟩
 ·show k (exOf none) ((Shp.put _ _).app [])=_
  rw[hput2];rfl
 ·cases t with
  |zero=>exact VR.ofC (show VC _ _ (.v (.sl .s) (es.map (·.1))) v from hv)
  |succ t=>trivial
 ·intro i ver e' T' xs h
  cases i with
  |zero=>cases h
  |succ i=>
   cases i with
   |zero=>cases h
   |succ i=>cases h
end
end Go.Proofs.YtmkomlbiaebddaaGreatDoor.Am
