/- Parts of one proof. Conditions: as each theorem says. -/
import Derived.Test.YtopanhneegpgcaaGreatDoorRows
import Derived.Test.YtopanhneegpgcaaGreatDoorTie
import Derived.Test.YtopanhneegpgcaaGreatDoorCards
import Derived.ProofKit
import Derived.OpenShut
import Derived.Carry
import Derived.JoinedCond
import Derived.ChangeMaps5
import Derived.Deep.SlicePairs
import Derived.Deep.DeepHandedRow
import Derived.Lib.LaidTab
import Derived.SevenTiedAt
import Derived.KernelRfl
import Derived.Stop.LaidErr
import Derived.Test.YtopanhneegpgcaaGreatDoorQgN
namespace Go.Proofs.YtopanhneegpgcaaGreatDoor.Am
open Go Go.RowKit
theorem ri_keysB{γ:Type}{es:List (L8×γ)}(hR:Ri kltS es):zrY (es.map (·.1))=true:=ycN.2 (List.pairwise_map.2 hR)
theorem zuI{γ:Type}{es:List (L8×γ)}(hR:Ri kltS es)(hl:es.length<=1048576)(hk:∀p∈es,p.1.length<=68719476736):zoN es=some (es.map (·.1),es):=by
 unfold zoN ygA
 rw[decide_eq_true hl,ri_keysB hR,List.all_eq_true.2 fun p hp=>decide_eq_true (hk p hp)]
 rfl
theorem ybW{γ δ:Type}{es:List (L8×γ)}{body:Int×List (L8×γ)×List δ->Option ((Int×List (L8×γ)×List δ)⊕(List (L8×γ)×List δ))}{tell:L8×γ->δ}(hl:es.length<=1048576)
  (hb:∀(i:Nat) (hi:i<es.length) (acc:List δ),acc.length<=1048576->body ((i:Int),es,acc)=some (.inl (((i+1:Nat):Int),es,acc++[tell es[i]])))
  (he:∀acc,body ((es.length:Int),es,acc)=some (.inr (es,acc))):iter body ((0:Int),es,([]:List δ))=some (es,es.map tell):=by
 have key:∀(f i:Nat) (acc:List δ),f+i=es.length->acc.length+f<=1048576->∀g,f<g->zoJ body g ((i:Int),es,acc)=some (es,acc++(es.drop i).map tell):=by
  intro f
  induction f with
  |zero=>
   intro i acc hi _ g hg
   obtain⟨g,rfl⟩:∃m,g=m+1:=⟨g-1,by omega⟩
   have hi:i=es.length:=by omega
   subst hi
   rw[zcF (he acc),List.drop_length,List.map_nil,List.append_nil]
  |succ f ih=>
   intro i acc hi ha g hg
   obtain⟨g,rfl⟩:∃m,g=m+1:=⟨g-1,by omega⟩
   have hlt:i<es.length:=by omega
   rw[zcG (hb i hlt acc (by omega)),ih (i+1) _ (by omega) (by simp;omega) g (by omega),List.drop_eq_getElem_cons hlt,List.map_cons,List.append_assoc]
   rfl
 have:=key es.length 0 [] (by omega) (by simp;omega) FU (by unfold FU;omega)
 rw[List.drop_zero,List.nil_append]at this
 exact this
def usE(s:PS):List Us:=s.1.map (·.2)
def grE(s:PS):List (L8×List L8×List L8×List L8×Int):=s.2.1.map fun p=>(p.1,p.2.1.1,p.2.1.2.1,p.2.1.2.2,p.2.2)
def roE(s:PS):List Ro:=s.2.2.1.map (·.2)
def clE(s:PS):List Cl:=s.2.2.2.1.map (·.2)
def maE(s:PS):List (L8×L8):=s.2.2.2.2.map (·.1)
theorem ysH{n:Nat}(h:n<=1048576):chk (decide ((0:Int)<=(n:Int))&&decide ((n:Int)<=(LIM:Int)))=some ():=by
 rw[decide_eq_true (show(0:Int)<=(n:Int) by omega),decide_eq_true (show(n:Int)<=(LIM:Int) by unfold LIM;omega)];rfl
theorem mk0{α:Type}(z:α):Go.Proofs.YtopanhneegpgcaaGreatDoor.mkL (0:Int) z=some []:=rfl
theorem get_at{γ:Type}{es:List (L8×γ)}(hR:Ri kltS es){i:Nat}(hi:i<es.length)(z:γ):zcD keqS es es[i].1 z=es[i].2:=by
 rw[zgY,kS.get_mem hR (k:=es[i].1) (v:=es[i].2) (List.getElem_mem hi)];rfl
theorem ysJ{γ:Type}{es:List (L8×γ)}{i:Nat}(hi:i<es.length):idx (es.map (·.1)) (i:Int)=some es[i].1:=by
 rw[ziE rfl (by rw[List.length_map];exact hi),List.getElem_map]
theorem xcP{B:Int}{s:PS}(h:PInv B s):zfP zaB s.1 s.2.1 s.2.2.1 s.2.2.2.1 s.2.2.2.2=some (s.1,s.2.1,s.2.2.1,s.2.2.2.1,s.2.2.2.2,usE s):=by
 have hl:=h.uL
 unfold zfP zqJ zyH
 rw[ysH (by omega),zaA,mk0,zaA,zaA,zuI h.uR (by omega) fun p hp=>Nat.le_trans (zkK (h.us p.1 p.2 hp).2.1) (by decide),zaA]
 rw[ybW (es:=s.1) (tell:=fun p:L8×Us=>p.2) (by omega) (fun i hi acc ha=>?_) fun acc=>?_,zaA,zaA]
 ·rfl
 ·unfold zoR zhB
  simp only
  rw[zhQ (by rw[List.length_map];omega),ysJ hi,zaA,get_at h.uR hi,zaA,zkB (by simp;omega),zaA,zsJ (by omega)]
 ·unfold zoR
  simp only
  rw[ziI (by rw[List.length_map];omega)]
theorem xbQ{B:Int}{s:PS}(h:PInv B s):zeU zaB s.1 s.2.1 s.2.2.1 s.2.2.2.1 s.2.2.2.2=some (s.1,s.2.1,s.2.2.1,s.2.2.2.1,s.2.2.2.2,grE s):=by
 have hl:=h.gL
 unfold zeU zqA zxU
 rw[ysH (by omega),zaA,mk0,zaA,zaA,zuI h.gR (by omega) fun p hp=>Nat.le_trans (zkK (h.gn p.1 p.2 hp).1) (by decide),zaA]
 rw[ybW (es:=s.2.1) (tell:=fun p:L8×Gr=>(p.1,p.2.1.1,p.2.1.2.1,p.2.1.2.2,p.2.2)) (by omega) (fun i hi acc ha=>?_) fun acc=>?_,zaA,zaA]
 ·rfl
 ·have hm:(s.2.1[i].1,s.2.1[i].2)∈s.2.1:=List.getElem_mem hi
  have e:∀l:List L8,l.length<=64->zgL zaB l=some l:=fun l hl=>by
   unfold zgL
   rw[zzA _ (by omega),zaA]
  unfold zoO
  simp only
  rw[zhQ (by rw[List.length_map];omega),ysJ hi,zaA,get_at h.gR hi]
  unfold zvT
  rw[e s.2.1[i].2.1.1 (h.lst_len hm (i:=0) (by decide)),zaA,e s.2.1[i].2.1.2.1 (h.lst_len hm (i:=1) (by decide)),zaA,e s.2.1[i].2.1.2.2 (h.lst_len hm (i:=2) (by decide)),zaA,zaA,zkB (by simp;omega),zaA,zsJ (by omega)]
 ·unfold zoO
  simp only
  rw[ziI (by rw[List.length_map];omega)]
theorem yfS{r:Ro}(h:yjV r=true):r.2.length<=16:=by
 unfold yjV ybI at h
 simp only[Bool.and_eq_true,decide_eq_true_eq]at h
 exact h.2.2
theorem xdR{c:Cl}(h:cliB c=true):c.2.2.1.length<=16/\c.2.2.2.1.length<=16:=by
 unfold cliB ybI at h
 simp only[Bool.and_eq_true,decide_eq_true_eq]at h
 exact⟨h.1.2.2,h.2.2⟩
theorem xfS{B:Int}{s:PS}(h:PInv B s):zfM zaB s.1 s.2.1 s.2.2.1 s.2.2.2.1 s.2.2.2.2=some (s.1,s.2.1,s.2.2.1,s.2.2.2.1,s.2.2.2.2,roE s):=by
 have hl:=h.rL
 unfold zfM zpZ zxM
 rw[ysH (by omega),zaA,mk0,zaA,zaA,zuI h.rR (by omega) fun p hp=>by
  have h1:=h.ro p.1 p.2 hp
  have h2:=zaT h1.2
  rw[h1.1]at h2
  exact Nat.le_trans (zkK h2) (by decide),zaA]
 rw[ybW (es:=s.2.2.1) (tell:=fun p:L8×Ro=>p.2) (by omega) (fun i hi acc ha=>?_) fun acc=>?_,zaA,zaA]
 ·rfl
 ·have hm:(s.2.2.1[i].1,s.2.2.1[i].2)∈s.2.2.1:=List.getElem_mem hi
  have h1:=yfS (h.ro _ _ hm).2
  unfold zoK zhA
  simp only
  rw[zhQ (by rw[List.length_map];omega),ysJ hi,zaA,get_at h.rR hi,yqR (by omega),zaA,zaA,zkB (by simp;omega),zaA,zsJ (by omega)]
 ·unfold zoK
  simp only
  rw[ziI (by rw[List.length_map];omega)]
theorem cli_nm{c:Cl}(h:cliB c=true):nmB c.1=true:=by
 unfold cliB at h
 simp only[Bool.and_eq_true]at h
 exact h.1.1.1
theorem yvF{B:Int}{s:PS}(h:PInv B s):zeN zaB s.1 s.2.1 s.2.2.1 s.2.2.2.1 s.2.2.2.2=some (s.1,s.2.1,s.2.2.1,s.2.2.2.1,s.2.2.2.2,clE s):=by
 have hl:=h.cL
 unfold zeN zrH zxY
 rw[ysH (by omega),zaA,mk0,zaA,zaA,zuI h.cR (by omega) fun p hp=>by
  have h1:=h.cl p.1 p.2 hp
  have h2:=cli_nm h1.2
  rw[h1.1]at h2
  exact Nat.le_trans (zkK h2) (by decide),zaA]
 rw[ybW (es:=s.2.2.2.1) (tell:=fun p:L8×Cl=>p.2) (by omega) (fun i hi acc ha=>?_) fun acc=>?_,zaA,zaA]
 ·rfl
 ·have hm:(s.2.2.2.1[i].1,s.2.2.2.1[i].2)∈s.2.2.2.1:=List.getElem_mem hi
  have h1:=xdR (h.cl _ _ hm).2
  unfold zqF zfX
  simp only
  rw[zhQ (by rw[List.length_map];omega),ysJ hi,zaA,get_at h.cR hi,ypL (by omega) (by omega),zaA,zaA,zkB (by simp;omega),zaA,zsJ (by omega)]
 ·unfold zqF
  simp only
  rw[ziI (by rw[List.length_map];omega)]
theorem ymE:∀{l:List (L8×L8)},(l.Pairwise fun x y=>kltM x y=true)->ydH l=true
 |[],_=>rfl
 |[_],_=>rfl
 |x::y::l,h=>by
  have hc:=List.pairwise_cons.1 h
  unfold ydH
  rw[Bool.and_eq_true]
  exact⟨hc.1 y List.mem_cons_self,ymE hc.2⟩
theorem mays_ok{B:Int}{s:PS}(h:PInv B s):zgC zaB s.1 s.2.1 s.2.2.1 s.2.2.2.1 s.2.2.2.2=some (maE s,s):=by
 have hl:=h.mL
 unfold zgC zxW
 rw[zaA]
 have e:yaX s.2.2.2.2=some (s.2.2.2.2.map (·.1),s.2.2.2.2):=by
  unfold yaX
  rw[decide_eq_true (by omega),ymE (List.pairwise_map.2 h.mR)];rfl
 rw[e,zaA]
 rfl
inductive InG (G:GM) (u:L8):L8->Prop
 |dir {n:L8} {g:Gr}:(n,g)∈G->u∈lst 0 g->InG G u n
 |sub {n x:L8} {g:Gr}:(n,g)∈G->x∈lst 1 g->InG G u x->InG G u n
theorem InG.key{G:GM}{u n:L8}(h:InG G u n):mhas keqS G n=true:=by
 cases h with
 |dir h _=>exact kS.has_iff.2 ⟨_,h⟩
 |sub h _ _=>exact kS.has_iff.2 ⟨_,h⟩
open Classical in
noncomputable def inE(G:GM)(u:L8):List L8:=(G.map (·.1)).filter fun n=>decide (InG G u n)
open Classical in
theorem ykP{G:GM}{u n:L8}:n∈inE G u↔InG G u n:=by
 unfold inE
 rw[List.mem_filter,decide_eq_true_eq]
 refine⟨fun h=>h.2,fun h=>⟨?_,h⟩⟩
 obtain⟨g,hg⟩:=kS.has_iff.1 h.key
 exact List.mem_map.2 ⟨_,hg,rfl⟩
theorem inE_ri{G:GM}(hR:Ri kltS G)(u:L8):RiL (inE G u):=(show RiL (G.map (·.1))from List.pairwise_map.2 hR).sublist List.filter_sublist
theorem cont_ok(l:List L8)(z:SM)(hl:l.length<=1048576):zdK zaB l z=some (l.any (fun x=>mhas keqS z x),z):=by
 have key:∀(f i:Nat),f+i=l.length->∀g,f<g->zoJ (fun x:Int×SM=>zcZ zaB l x.1 x.2) g ((i:Int),z)=some (match (l.drop i).findIdx? (fun x=>mhas keqS z x) with
   |some k=>.inl (((i+k:Nat):Int),z)
   |none=>.inr z):=by
  intro f
  induction f with
  |zero=>
   intro i hi g hg
   obtain⟨g,rfl⟩:∃m,g=m+1:=⟨g-1,by omega⟩
   have hi:i=l.length:=by omega
   subst hi
   rw[List.drop_length]
   refine zcF ?_
   unfold zcZ
   simp only
   rw[ziI (by omega)]
   rfl
  |succ f ih=>
   intro i hi g hg
   obtain⟨g,rfl⟩:∃m,g=m+1:=⟨g-1,by omega⟩
   have hlt:i<l.length:=by omega
   rw[List.drop_eq_getElem_cons hlt,List.findIdx?_cons]
   have hb:zcZ zaB l (i:Int) z=bif mhas keqS z l[i]then some (.inr (.inl ((i:Int),z)))else some (.inl (((i+1:Nat):Int),z)):=by
    unfold zcZ zjU
    rw[zhQ (by omega),ziE rfl hlt,zaA,zaA,zsJ (by omega)]
   cases hm:mhas keqS z l[i] with
   |true=>
    rw[hm]at hb
    rw[zcF (b:=.inl ((i:Int),z)) hb];rfl
   |false=>
    rw[hm]at hb
    rw[zcG (s':=(((i+1:Nat):Int),z)) hb,ih (i+1) (by omega) g (by omega)]
    simp only[if_false,Bool.false_eq_true]
    cases (l.drop (i+1)).findIdx? (fun x=>mhas keqS z x) with
    |none=>rfl
    |some k=>simp only[Option.map_some];congr 4;omega
 have h0:=key l.length 0 (by omega) FU (by unfold FU;omega)
 unfold zdK zmZ
 rw[show iter (fun x:Int×SM=>zcZ zaB l x.1 x.2) ((0:Int),z)=_ from h0,zaA,List.drop_zero]
 cases hf:l.findIdx? (fun x=>mhas keqS z x) with
 |none=>
  simp only[zaA]
  rw[show l.any (fun x=>mhas keqS z x)=false from List.any_eq_false.2 fun x hx=>by rw[List.findIdx?_eq_none_iff.1 hf x hx];simp]
  rfl
 |some k=>
  simp only[zaA]
  rw[show l.any (fun x=>mhas keqS z x)=true from List.any_eq_true.2 (by
   obtain⟨hk,h1,_⟩:=List.findIdx?_eq_some_iff_getElem.1 hf
   exact⟨l[k],List.getElem_mem hk,h1⟩)]
  rw[decide_eq_true (show(((0+k:Nat)):Int)≥0 by omega)]
abbrev T7:Type:=Bool×UM×GM×RM×CM×MM×SM
abbrev T8:Type:=Bool×UM×GM×RM×CM×MM×List L8×SM
theorem in_rng{B:Int}{s:PS}(h:PInv B s)(u:L8):∃z:SM,Ri kltS z/\(∀n,mhas keqS z n=true↔InG s.2.1 u n)/\rngA (zrS zaB u) (Sum.inl (true,s.1,s.2.1,s.2.2.1,s.2.2.2.1,s.2.2.2.2,([]:SM)))=some (s.1,s.2.1,s.2.2.1,s.2.2.2.1,s.2.2.2.2,z):=by
 obtain⟨z,hz,hzm⟩:∃z:SM,Ri kltS z/\∀n,mhas keqS z n=true↔InG s.2.1 u n:=by
  refine⟨(inE s.2.1 u).map fun n=>(n,()),List.pairwise_map.2 (inE_ri h.gR u),fun n=>?_⟩
  rw[kS.has_iff,<-ykP]
  constructor
  ·rintro⟨v,hv⟩
   obtain⟨m,hm,e⟩:=List.mem_map.1 hv
   cases e;exact hm
  ·exact fun hn=>⟨(),List.mem_map.2 ⟨n,hn,rfl⟩⟩
 refine⟨z,hz,hzm,?_⟩
 -- a set that is no more than what it shall be
 let ok:SM->Prop:=fun t=>Ri kltS t/\∀n,mhas keqS t n=true->InG s.2.1 u n
 have okl:∀t,ok t->t.length<=s.2.1.length:=fun t ht=>by
  have hn:(t.map (·.1)).Nodup:=(List.pairwise_map.2 (ht.1.imp fun {p q} hpq=>kS.lt_ne hpq):(t.map (·.1)).Pairwise (· ≠ ·))
  have:=zjG hn (m:=s.2.1.map (·.1)) fun x hx=>by
   obtain⟨p,hp,rfl⟩:=List.mem_map.1 hx
   obtain⟨g,hg⟩:=kS.has_iff.1 (ht.2 p.1 (kS.has_iff.2 ⟨p.2,hp⟩)).key
   exact List.mem_map.2 ⟨_,hg,rfl⟩
  simpa using this
 -- nothing is to come of a group
 let done:SM->L8->Gr->Prop:=fun t n g=>mhas keqS t n=true∨(u∉lst 0 g/\∀x∈lst 1 g,mhas keqS t x=false)
 have fin:∀t,ok t->(∀n g,(n,g)∈s.2.1->done t n g)->t=z:=fun t ht hd=>by
  refine kS.ext_get ht.1 hz fun n=>?_
  have:mhas keqS t n=mhas keqS z n:=by
   rw[Bool.eq_iff_iff,hzm]
   refine⟨ht.2 n,fun hn=>?_⟩
   induction hn with
   |dir hg hu=>
    rcases hd _ _ hg with h1|⟨h1,_⟩
    ·exact h1
    ·exact absurd hu h1
   |sub hg hx _ ih=>
    rcases hd _ _ hg with h1|⟨_,h1⟩
    ·exact h1
    ·rw[h1 _ hx]at ih;cases ih
  rw[zfW,zfW]at this
  cases h1:mget keqS t n with
  |none=>cases h2:mget keqS z n with
   |none=>rfl
   |some v=>rw[h1,h2]at this;cases this
  |some v=>cases h2:mget keqS z n with
   |none=>rw[h1,h2]at this;cases this
   |some w=>rfl
 refine rngA_m (S:=T7⊕T8) (fun x=>by
  cases x with
  |inl x=>exact List.cons_ne_nil _ _
  |inr x=>exact yaE _ _ _) (fun x=>match x with
   |.inl y=>∃t,y=(y.1,s.1,s.2.1,s.2.2.1,s.2.2.2.1,s.2.2.2.2,t)/\ok t/\(y.1=false->∀n g,(n,g)∈s.2.1->done t n g)
   |.inr y=>∃left t,y=(y.1,s.1,s.2.1,s.2.2.1,s.2.2.2.1,s.2.2.2.2,left,t)/\ok t/\left.length<=s.2.1.length/\(y.1=false->∀n g,(n,g)∈s.2.1->n∉left->done t n g))
  (fun x=>match x with
   |.inl y=>(s.2.1.length-y.2.2.2.2.2.2.length)*(s.2.1.length+3)+bif y.1 then s.2.1.length+2 else 0
   |.inr y=>(s.2.1.length-y.2.2.2.2.2.2.2.length)*(s.2.1.length+3)+y.2.2.2.2.2.2.1.length+1+bif y.1 then s.2.1.length+3 else 0) (fun x hx o ho=>?_) ⟨[],rfl,⟨.nil,fun n h=>by cases h⟩,fun h=>by cases h⟩
 cases x with
 |inl y=>
  obtain⟨t,hy,ht,hd⟩:=hx
  obtain⟨more,y2⟩:=y
  have hy2:y2=(s.1,s.2.1,s.2.2.1,s.2.2.2.1,s.2.2.2.2,t):=congrArg Prod.snd hy
  subst hy2
  have ho:o=zkN zaB more s.1 s.2.1 s.2.2.1 s.2.2.2.1 s.2.2.2.2 t:=List.mem_singleton.1 ho
  unfold zkN at ho
  cases more with
  |true=>
   refine .inl ⟨_,ho,⟨List.map Prod.fst s.2.1,t,rfl,ht,by rw[List.length_map];exact Nat.le_refl _,fun _ n g hg hn=>absurd (List.mem_map.2 ⟨_,hg,rfl⟩) hn⟩,?_⟩
   show(s.2.1.length-t.length)*(s.2.1.length+3)+(List.map Prod.fst s.2.1).length+1+0<(s.2.1.length-t.length)*(s.2.1.length+3)+(s.2.1.length+2)
   rw[List.length_map];omega
  |false=>
   right
   rw[<-fin t ht (hd rfl)]
   exact ho
 |inr y=>
  obtain⟨left,t,hy,ht,hll,hd⟩:=hx
  obtain⟨more,y2⟩:=y
  have hy2:y2=(s.1,s.2.1,s.2.2.1,s.2.2.2.1,s.2.2.2.2,left,t):=congrArg Prod.snd hy
  subst hy2
  have ho:o∈zkO zaB u more s.1 s.2.1 s.2.2.1 s.2.2.2.1 s.2.2.2.2 left t:=ho
  unfold zkO at ho
  rcases rngLm ho with⟨he,rfl⟩|⟨p,hp,rfl⟩
  ·refine .inl ⟨_,rfl,⟨t,rfl,ht,fun hm n g hg=>hd hm n g hg fun hn=>?_⟩,?_⟩
   ·have:=kS.rngC_mem.2 ⟨hg,hn⟩
    rw[he]at this;cases this
   ·show(s.2.1.length-t.length)*(s.2.1.length+3)+(bif more then s.2.1.length+2 else 0)<(s.2.1.length-t.length)*(s.2.1.length+3)+left.length+1+(bif more then s.2.1.length+3 else 0)
    cases more<;>simp only[cond_true,cond_false]<;>omega
  ·obtain⟨hp1,hp2⟩:=kS.rngC_mem.1 hp
   have hgl:=h.gl p.1 p.2 hp1
   have hlen:∀i,i<3->(lst i p.2).length<=64:=fun i hi=>h.lst_len hp1 hi
   have hd1:=kS.rngD_len hp2
   rw[kS.get_mem h.gR (k:=p.1) (v:=p.2) hp1,zaA]
   simp only
   have stay:done t p.1 p.2->(∃s',(some (.inl (.inr (more,s.1,s.2.1,s.2.2.1,s.2.2.2.1,s.2.2.2.2,rngD keqS left p.1,t))):Option ((T7⊕T8)⊕(UM×GM×RM×CM×MM×SM)))=some (.inl s')/\(match s' with
     |.inl y=>∃t,y=(y.1,s.1,s.2.1,s.2.2.1,s.2.2.2.1,s.2.2.2.2,t)/\ok t/\(y.1=false->∀n g,(n,g)∈s.2.1->done t n g)
     |.inr y=>∃left t,y=(y.1,s.1,s.2.1,s.2.2.1,s.2.2.2.1,s.2.2.2.2,left,t)/\ok t/\left.length<=s.2.1.length/\(y.1=false->∀n g,(n,g)∈s.2.1->n∉left->done t n g))/\(match s' with
     |.inl y=>(s.2.1.length-y.2.2.2.2.2.2.length)*(s.2.1.length+3)+bif y.1 then s.2.1.length+2 else 0
     |.inr y=>(s.2.1.length-y.2.2.2.2.2.2.2.length)*(s.2.1.length+3)+y.2.2.2.2.2.2.1.length+1+bif y.1 then s.2.1.length+3 else 0)<(s.2.1.length-t.length)*(s.2.1.length+3)+left.length+1+bif more then s.2.1.length+3 else 0):=fun hdn=>by
    refine⟨_,rfl,⟨_,t,rfl,ht,by omega,fun hm n g hg hn=>?_⟩,?_⟩
    ·by_cases e:n=p.1
     ·subst e
      have:=kS.get_mem h.gR (k:=p.1) (v:=g) hg
      rw[kS.get_mem h.gR (k:=p.1) (v:=p.2) hp1]at this
      cases this
      exact hdn
     ·exact hd hm n g hg fun hn2=>hn (kS.rngD_mem.2 ⟨hn2,e⟩)
    ·simp only;omega
   have add:InG s.2.1 u p.1->mhas keqS t p.1=false->(∃s',(some (.inl (.inr (true,s.1,s.2.1,s.2.2.1,s.2.2.2.1,s.2.2.2.2,rngD keqS left p.1,mset keqS kltS t p.1 ()))):Option ((T7⊕T8)⊕(UM×GM×RM×CM×MM×SM)))=some (.inl s')/\(match s' with
     |.inl y=>∃t,y=(y.1,s.1,s.2.1,s.2.2.1,s.2.2.2.1,s.2.2.2.2,t)/\ok t/\(y.1=false->∀n g,(n,g)∈s.2.1->done t n g)
     |.inr y=>∃left t,y=(y.1,s.1,s.2.1,s.2.2.1,s.2.2.2.1,s.2.2.2.2,left,t)/\ok t/\left.length<=s.2.1.length/\(y.1=false->∀n g,(n,g)∈s.2.1->n∉left->done t n g))/\(match s' with
     |.inl y=>(s.2.1.length-y.2.2.2.2.2.2.length)*(s.2.1.length+3)+bif y.1 then s.2.1.length+2 else 0
     |.inr y=>(s.2.1.length-y.2.2.2.2.2.2.2.length)*(s.2.1.length+3)+y.2.2.2.2.2.2.1.length+1+bif y.1 then s.2.1.length+3 else 0)<(s.2.1.length-t.length)*(s.2.1.length+3)+left.length+1+bif more then s.2.1.length+3 else 0):=fun hin hno=>by
    have ht2:ok (mset keqS kltS t p.1 ()):=by
     refine⟨kS.set_ri ht.1,fun n hn=>?_⟩
     rw[zfW,kS.set_get ht.1]at hn
     by_cases e:keqS p.1 n=true
     ·rw[<-kS.e.1 e];exact hin
     ·rw[if_neg e,<-zfW]at hn;exact ht.2 n hn
    refine⟨_,rfl,⟨_,_,rfl,ht2,by omega,fun hm=>by cases hm⟩,?_⟩
    have hlen2:=okl _ ht2
    have e:(mset keqS kltS t p.1 ()).length=t.length+1:=by rw[zuY,hno,if_neg (by simp)]
    simp only[cond_true]
    rw[e]at hlen2 ⊢
    obtain⟨d,hd⟩:∃d,s.2.1.length-t.length=d+1:=⟨s.2.1.length-t.length-1,by omega⟩
    rw[hd,show s.2.1.length-(t.length+1)=d by omega,Nat.succ_mul]
    have:(bif more then s.2.1.length+3 else 0)≥0:=Nat.zero_le _
    omega
   cases h1:mhas keqS t p.1 with
   |true=>exact .inl (stay (.inl h1))
   |false=>
    rw[cond_false,show zdK zaB p.2.1.2.1 t=_ from cont_ok _ t (show(lst 1 p.2).length<=_ by have:=hlen 1 (by decide);omega),zaA]
    simp only
    cases h2:p.2.1.2.1.any fun x=>mhas keqS t x with
    |true=>
     obtain⟨x,hx,hxt⟩:=List.any_eq_true.1 h2
     exact .inl (add (.sub hp1 hx (ht.2 x hxt)) h1)
    |false=>
     rw[cond_false,show zaW zaB p.2.1.1 u=_ from ybR u (hgl 0 (by decide)).1 (show(lst 0 p.2).length<=_ by have:=hlen 0 (by decide);omega),zaA]
     cases h3:p.2.1.1.contains u with
     |true=>exact .inl (add (.dir hp1 (List.contains_iff_mem.1 h3)) h1)
     |false=>
      refine .inl (stay (.inr ⟨fun hu=>?_,fun x hx=>?_⟩))
      ·rw[List.contains_iff_mem.2 (show u∈p.2.1.1 from hu)]at h3;cases h3
      ·have:=List.any_eq_false.1 h2 x hx
       simpa using this
theorem in_ok{B:Int}{s:PS}(h:PInv B s)(u:L8):zcB zaB u s.1 s.2.1 s.2.2.1 s.2.2.2.1 s.2.2.2.2=some (inE s.2.1 u,s):=by
 obtain⟨z,hz,hzm,hr⟩:=in_rng h u
 have hl:=h.gL
 have hkey:∀p∈z,mhas keqS s.2.1 p.1=true:=fun p hp=>((hzm p.1).1 (kS.has_iff.2 ⟨p.2,hp⟩)).key
 have hzl:z.length<=32:=by
  have hn:(z.map (·.1)).Nodup:=(List.pairwise_map.2 (hz.imp fun {p q} hpq=>kS.lt_ne hpq):(z.map (·.1)).Pairwise (· ≠ ·))
  have:=zjG hn (m:=s.2.1.map (·.1)) fun x hx=>by
   obtain⟨p,hp,rfl⟩:=List.mem_map.1 hx
   obtain⟨g,hg⟩:=kS.has_iff.1 (hkey p hp)
   exact List.mem_map.2 ⟨_,hg,rfl⟩
  rw[List.length_map,List.length_map]at this
  omega
 unfold zcB yaI
 rw[hr,zaA,zaA,zuI hz (by omega) fun p hp=>by
  obtain⟨g,hg⟩:=kS.has_iff.1 (hkey p hp)
  exact Nat.le_trans (zkK (h.gn p.1 g hg).1) (by decide),zaA]
 have e:z.map (·.1)=inE s.2.1 u:=by
  refine RiL.ext (List.pairwise_map.2 hz) (inE_ri h.gR u) fun n=>?_
  rw[ykP,<-hzm,kS.has_iff]
  constructor
  ·intro hn
   obtain⟨p,hp,rfl⟩:=List.mem_map.1 hn
   exact⟨p.2,hp⟩
  ·rintro⟨v,hv⟩
   exact List.mem_map.2 ⟨_,hv,rfl⟩
 rw[e]
end Go.Proofs.YtopanhneegpgcaaGreatDoor.Am
namespace Go.Proofs.YtopanhneegpgcaaGreatDoor
open Go Go.RowKit
section
open Go Go.RowKit Go.ChangeShapes Go.WideShapes Go.ChangeAt
section
variable {H:Type}{enc:TypeId×Value->H}{P:Program}{W W':World}
theorem yfO(hl:laidOutB P=true)(hx:Below W.heap.size W W'):∀{ts:List TypeId} {vs:LV} {ds:List (DataW H)} {ps:List MemPlace},ts.all (fun t=>P.readableRec t&&decide (t<P.types.size))=true ->
  DataW.TrodAll enc P W 0 (fun _=>true) true ts vs ds ps->(∀x∈ps,x.block<W.heap.size)->DataW.TrodAll enc P W' 0 (fun b=>decide (b<W.heap.size)) true ts vs ds ps
 |[],vs,ds,ps,_,h,_=>by
  obtain⟨rfl,rfl,rfl⟩:=trodAll_nil h
  exact trodAll_mk0
 |t::ts,vs,ds,ps,ha,h,hlt=>by
  obtain⟨v,vs',d,ds',p,q,rfl,rfl,rfl,h0,hr⟩:=trodAll_cons h
  simp only[List.all_cons,Bool.and_eq_true,decide_eq_true_eq]at ha
  exact trodAll_cons_mk (Below.trod hl ha.1.1 ha.1.2 h0 hx fun x hx=>hlt x (List.mem_append.2 (.inl hx)))
   (yfO hl hx ha.2 hr fun x hx=>hlt x (List.mem_append.2 (.inr hx)))
theorem trodAll_length:∀{ts:List TypeId} {vs:LV} {ds:List (DataW H)} {ps:List MemPlace} {w:World} {b:Nat} {sp:Nat->Bool} {hd:Bool},DataW.TrodAll enc P w b sp hd ts vs ds ps->vs.length=ts.length/\ds.length=ts.length
 |[],vs,ds,ps,_,_,_,_,h=>by
  obtain⟨rfl,rfl,rfl⟩:=trodAll_nil h
  exact⟨rfl,rfl⟩
 |t::ts,vs,ds,ps,_,_,_,_,h=>by
  obtain⟨v,vs',d,ds',p,q,rfl,rfl,rfl,h0,hr⟩:=trodAll_cons h
  have:=trodAll_length hr
  simp[this.1,this.2]
theorem xdK{f:Func}{s:ChangeSpec}{args:Array Value}{ds gs:List (DataW H)}{before:List MemPlace}{B:TypeId}{n:Nat}(hl:laidOutB P=true)(hv:s.vars=[])
  (hp:f.params.toList.all (fun t=>P.readableRec t&&decide (t<P.types.size))=true) (hn:f.params.toList.length=n) (hB:P.underlying B=some .bool) (hr:f.resultTypes = #[B])
  (hfn:∀ds:List (DataW H),ds.length=n->(s.fn H (ds++[])).results=[.lit (.bool true)]/\(s.fn H (ds++[])).args=ds/\(s.fn H (ds++[])).vars=[])
  (hW:DataW.Whole enc P f.params.toList s.vars false W args.toList ds gs before) (hx:Ext W W'):s.post enc P f false true false false W args (.bool true) W':=by
 have hW':=hW
 obtain⟨p,q,hA,hV,rfl,_,_⟩:=hW
 rw[hv]at hV
 obtain⟨rfl,rfl⟩:=trodVars_none hV
 have hA:DataW.TrodAll enc P W 0 (fun _=>true) true f.params.toList args.toList ds p:=hA
 have hlen:=trodAll_length hA
 obtain⟨f1,f2,f3⟩:=hfn ds (hlen.2.trans hn)
 refine⟨ds,[],p++[],[],p,[],hW',?_,?_,?_,Below.frame hx _,fun h=>by cases h⟩
 ·rw[f1,hr]
  exact trodAll_mk1 (shut_bool hB _)
 ·rw[f2]
  exact yfO hl hx hp hA fun x hxp=>by simpa using hW'.lt x (by simp[hxp])
 ·rw[f3,hv];exact rfl
variable {b0:Nat}{T E:TypeId}{v:Value}
theorem xeY{fits:TypeId->Bool}:∀{d:Nat} {e:TypeId} {count off n:Nat},rowAt P fits d e count off n=true->off<=count*P.cellsOf e
 |0,_,_,_,_,h=>by simp[rowAt]at h
 |d+1,e,count,off,n,h=>by
  unfold rowAt at h
  by_cases hs:P.cellsOf e=0
  ·simp[hs]at h
  ·have hd:=Nat.div_add_mod off (P.cellsOf e)
   have hm:=Nat.mod_lt off (Nat.pos_of_ne_zero hs)
   simp only[hs,if_false,Bool.or_eq_true,Bool.and_eq_true,decide_eq_true_eq,beq_iff_eq]at h
   rcases h with⟨⟨h1,h2⟩,_⟩|⟨h1,_⟩
   ·have h3:P.cellsOf e*(off/P.cellsOf e)<=P.cellsOf e*count:=Nat.mul_le_mul_left _ (by omega)
    rw[Nat.mul_comm count];omega
   ·have h3:P.cellsOf e*(off/P.cellsOf e+1)<=P.cellsOf e*count:=Nat.mul_le_mul_left _ (by omega)
    rw[Nat.mul_add,Nat.mul_one]at h3
    rw[Nat.mul_comm count];omega
theorem yoH:∀{d:Nat} {e:TypeId} {count off:Nat} {u:TypeId} {n:Nat},liesAt P d e count off u n=true->off<=count*P.cellsOf e
 |0,_,_,_,_,_,h=>by simp[liesAt]at h
 |d+1,e,count,off,u,n,h=>by
  unfold liesAt at h
  rw[Bool.or_eq_true]at h
  rcases h with h|h
  ·exact xeY h
  ·split at h
   ·exact yoH h
   ·cases h
theorem ok_place{a:Addr}{len cap:Nat}(hu:P.underlying T=some (.slice E))(h:Value.okWide P W .any b0 T (.slice (some a) len cap)):
  a.spot=none/\∃cs R fz,W.heap[a.block]? = some (.cells cs R fz)/\a.off<=cs.size:=by
 simp only[Value.okWide,Cell.okWide,Cell.ok,hu]at h
 obtain⟨_,_,_,h2,row,cells,h3,h4⟩:=h
 refine⟨h2,?_⟩
 unfold World.shape? at h3
 split at h3
 ·rename_i c elem fz hb
  simp only[Option.some.injEq,Prod.mk.injEq]at h3
  obtain⟨rfl,rfl⟩:=h3
  have h5:=yoH h4
  have h6:=Nat.div_mul_le_self c.size (P.cellsOf elem)
  exact⟨c,_,fz,hb,by omega⟩
 ·cases h3
theorem ok_slice(hu:P.underlying T=some (.slice E))(h:Value.okWide P W .any b0 T v):v = .slice none 0 0∨∃a len cap,v = .slice (some a) len cap:=by
 simp only[Value.okWide,Cell.okWide,Cell.ok,hu]at h
 cases v with
 |slice a len cap=>
  cases a with
  |none=>
   left
   cases len with
   |zero=>cases cap with
    |zero=>rfl
    |succ n=>simp at h
   |succ n=>simp at h
  |some a=>exact .inr ⟨a,len,cap,rfl⟩
 |_=>simp at h
theorem ytI{l r:List (DataW H)}:Rows.uptoBulkAll (l++r)=Rows.uptoBulkAll l+Rows.uptoBulkAll r:=by
 induction l with
 |nil=>simp[Rows.uptoBulkAll]
 |cons x l ih=>simp only[List.cons_append,Rows.uptoBulkAll,ih];omega
end
end
end Go.Proofs.YtopanhneegpgcaaGreatDoor
namespace Go.Proofs.YtopanhneegpgcaaGreatDoor.Am
open Go Go.RowKit Go.ChangeShapes Go.WideShapes Go.ChangeAt
def dsz:(t:Ty)->den t->Nat
 |.s,x=>List.length x+1
 |.pr a c,x=>dsz a x.1+dsz c x.2
 |.un,_=>0
 |.sl e,x=>(List.map (dsz e) x).sum+1
 |_,_=>1
def fOk(q:TypeId->Ty->Bool)(c:TypeId->Nat):List Field->Nat->Ty->Bool
 |[],_,t=>match t with
  |.un=>true
  |_=>false
 |[f],off,t=>(q f.type t&&(Nat.beq f.offset off&&Nat.beq (c f.type) (tsz t)))||(match t with
  |.pr a .un=>q f.type a&&(Nat.beq f.offset off&&Nat.beq (c f.type) (tsz a))
  |_=>false)
 |f::g::fs,off,t=>match t with
  |.pr a r=>(q f.type a&&(Nat.beq f.offset off&&Nat.beq (c f.type) (tsz a)))&&fOk q c (g::fs) (off+tsz a) r
  |_=>false
def tyOk(P:Program):Nat->TypeId->Ty->Bool
 |0,_,_=>false
 |n+1,T,t=>match P.underlying T,t with
  |some (.int k),.i k'=>(ikEq k k').isSome
  |some .bool,.b=>true
  |some .string,.s=>true
  |some (.slice E),.sl e=>tyOk P n E e&&(Nat.beq (P.cellsOf E) (tsz e)&&Nat.blt 0 (tsz e))
  |some (.struct fs),t=>(Nat.beq (P.cellsOf T) (tsz t) && !(one t))&&fOk (tyOk P n) P.cellsOf fs.toList 0 t
  |_,_=>false
section
variable {H:Type}{enc:TypeId×Value->H}{P:Program}{W:World}{sp:Nat->Bool}{S:Mem}
theorem toI_wf:∀{k:IntKind} {n:Int},(Lit.int k n).wf=true->toI k (ofI k n)=n:=fun {k n} h=>by
 rw[yyL]
 cases k<;>simp[Lit.wf,IntKind.min,IntKind.max,IntKind.signed,IntKind.bits]at h<;>simp[IntKind.wrap,IntKind.signed,IntKind.bits]<;>omega
theorem ylV{a c:Ty}{cs:LV}{x:den a}{y:den c}(hx:rep a S (cs.take (tsz a)) x)(hy:rep c S (cs.drop (tsz a)) y):rep (.pr a c) S cs (x,y):=
 ⟨_,_,(List.take_append_drop (tsz a) cs).symm,hx,hy⟩
theorem rep_un:rep .un S ([]:LV) ():=rfl
theorem ymT{q:TypeId->Ty->Bool}{fuel:Nat}(hq:∀(T:TypeId) (t:Ty),q T t=true->∀cs d ps,DataW.trod enc P W 0 sp true fuel T cs=some (d,ps)->∃x:den t,rep t S cs x/\dsz t x<=Rows.uptoBulk d){cs:LV}:
  ∀(fs:List Field) (off:Nat) (t:Ty) (xs:List (DataW H×List MemPlace)),fOk q P.cellsOf fs off t=true->cs.length=off+tsz t ->
   A2 (fun(f:Field) y=>DataW.trod enc P W 0 sp true fuel f.type ((cs.drop f.offset).take (P.cellsOf f.type))=some y) fs xs ->
   ∃x:den t,rep t S (cs.drop off) x/\dsz t x<=Rows.uptoBulkAll (xs.map (·.1))
 |[],off,t,xs,h,hl,hA=>by
  cases t<;>simp only[fOk]at h<;>try (cases h;done)
  cases hA
  refine⟨(),?_,Nat.zero_le _⟩
  rw[List.drop_eq_nil_of_le (by rw[hl];exact Nat.le_refl _)]
  exact rep_un
 |[f],off,t,xs,h,hl,hA=>by
  cases hA with
  | @cons _ y _ _ h1 h2=>
   cases h2
   simp only[fOk,Bool.or_eq_true]at h
   rcases h with h|h
   ·rw[Bool.and_eq_true,Bool.and_eq_true]at h
    obtain⟨h0,h2,h3⟩:=h
    have h2:=Nat.eq_of_beq_eq_true h2
    have h3:=Nat.eq_of_beq_eq_true h3
    obtain⟨x,hx,hd⟩:=hq _ _ h0 _ _ _ h1
    refine⟨x,?_,by simp only[List.map_cons,List.map_nil,Rows.uptoBulkAll];omega⟩
    rw[h2,h3,List.take_of_length_le (by rw[List.length_drop];omega)]at hx
    exact hx
   ·cases t with
    |pr a c=>
     cases c with
     |un=>
      rw[Bool.and_eq_true,Bool.and_eq_true]at h
      obtain⟨h0,h2,h3⟩:=h
      have h2:=Nat.eq_of_beq_eq_true h2
      have h3:=Nat.eq_of_beq_eq_true h3
      obtain⟨x,hx,hd⟩:=hq _ _ h0 _ _ _ h1
      rw[h2,h3]at hx
      have hl:cs.length=off+tsz a:=hl
      refine⟨(x,()),ylV hx ?_,by simp only[List.map_cons,List.map_nil,Rows.uptoBulkAll];show dsz a x+0<=_;omega⟩
      rw[List.drop_eq_nil_of_le (by rw[List.length_drop];omega)]
      exact rep_un
     |_=>simp at h
    |_=>simp at h
 |f::g::fs,off,t,xs,h,hl,hA=>by
  cases t with
  |pr a r=>
   simp only[fOk]at h
   rw[Bool.and_eq_true,Bool.and_eq_true,Bool.and_eq_true]at h
   obtain⟨⟨h1,h2,h3⟩,h4⟩:=h
   have h2:=Nat.eq_of_beq_eq_true h2
   have h3:=Nat.eq_of_beq_eq_true h3
   have hl:cs.length=off+(tsz a+tsz r):=hl
   cases hA with
   | @cons _ y _ ys g1 g2=>
    obtain⟨x,hx,hd⟩:=hq _ _ h1 _ _ _ g1
    obtain⟨z,hz,he⟩:=ymT hq (g::fs) (off+tsz a) r ys h4 (by omega) g2
    rw[h2,h3]at hx
    refine⟨(x,z),ylV hx (by rw[List.drop_drop];exact hz),?_⟩
    simp only[List.map_cons,Rows.uptoBulkAll]
    show dsz a x+dsz r z<=_
    omega
  |_=>simp[fOk]at h
theorem A2_get{α β:Type}{R:α->β->Prop}:∀{l:List α} {m:List β},l.length=m.length->(∀(i:Nat) (a:α) (b:β),l[i]? = some a->m[i]? = some b->R a b)->A2 R l m
 |[],[],_,_=>.nil
 |[],_::_,h,_=>by cases h
 |_::_,[],h,_=>by cases h
 |a::l,b::m,h,hR=>.cons (hR 0 a b rfl rfl) (A2_get (by simpa using h) fun i a b ha hb=>hR (i+1) a b (by simpa using ha) (by simpa using hb))
theorem xcK{e:Ty}:∀{xs:List (den e)} {cs ds:LV} {x:den e},@RL (den e) (rpD e) S cs xs->rep e S ds x->@RL (den e) (rpD e) S (cs++ds) (xs++[x])
 |[],cs,ds,x,h,hx=>by
  have h:cs=[]:=h
  subst h
  exact⟨ds,[],by simp,hx,rfl⟩
 |y::xs,cs,ds,x,h,hx=>by
  obtain⟨c,d,rfl,h1,h2⟩:=h
  exact⟨c,d++ds,by simp,h1,xcK h2 hx⟩
theorem sl_of{T E:TypeId}{e:Ty}{fuel:Nat}(hu:P.underlying T=some (.slice E))(hc:P.cellsOf E=tsz e)(hz:0<tsz e)(hq:∀(m:Nat) (cs:LV) (d:DataW H) (ps:List MemPlace),DataW.trod enc P W 0 (fun _=>true) true m E cs=some (d,ps)->∃x:den e,rep e (zuK W) cs x/\dsz e x<=Rows.uptoBulk d){cs:LV}{d:DataW H}{ps:List MemPlace}(hd:DataW.trod enc P W 0 (fun _=>true) true fuel T cs=some (d,ps)):
  ∃xs:List (den e),rep (.sl e) (zuK W) cs xs/\dsz (.sl e) xs<=Rows.uptoBulk d:=by
 rcases DataW.trod_slice hu hd with⟨rfl,h2⟩|⟨a,len,cap,elems,rest,m,rfl,rfl,h2,_,hlc,_,hel,hget,hrest,_⟩
 ·cases h2
  exact⟨[],⟨_,rfl,[],.inl ⟨⟨none,rfl⟩,rfl,rfl⟩,rfl⟩,Nat.le_refl _⟩
 ·cases h2
  by_cases hcap:cap=0
  ·subst hcap
   obtain rfl:len=0:=by omega
   refine⟨[],⟨_,rfl,[],.inl ⟨⟨some a,rfl⟩,rfl,rfl⟩,rfl⟩,?_⟩
   show 0+1<=_
   simp only[Rows.uptoBulk]
   omega
  have h0:∃us,W.cells? 0 a (P.cellsOf E)=some us:=by
   by_cases hl0:len=0
   ·subst hl0
    obtain⟨g1,g2⟩:=hrest rfl
    have g3:=g2 0 (by omega)
    rw[List.getElem?_eq_getElem (by omega:0<rest.length)]at g3
    obtain⟨us,hus,_⟩:=Option.bind_eq_some_iff.1 g3
    rw[show a.add ((0+0)*P.cellsOf E)=a by simp[Addr.add]]at hus
    exact⟨us,hus⟩
   ·have g3:=hget 0 (by omega)
    rw[List.getElem?_eq_getElem (by omega:0<elems.length)]at g3
    obtain⟨us,hus,_⟩:=Option.bind_eq_some_iff.1 g3
    rw[show a.add (0*P.cellsOf E)=a by simp[Addr.add]]at hus
    exact⟨us,hus⟩
  obtain⟨us,hus⟩:=h0
  obtain⟨_,hul,huc⟩:=World.cells?_some hus
  have hc0:=huc 0 (by omega)
  rw[show a.add 0=a by simp[Addr.add],List.getElem?_eq_getElem (by omega:0<us.length)]at hc0
  obtain⟨blk,off,spot⟩:=a
  obtain⟨cs,R,fz,hb,hsp,ho⟩:∃cs R fz,W.heap[blk]? = some (.cells cs R fz)/\spot=none/\off<=cs.size:=by
   unfold World.cell? at hc0
   dsimp only at hc0
   split at hc0
   ·rename_i c R fz hb
    cases spot with
    |some s=>simp at hc0
    |none=>
     rw[if_neg (by simp)]at hc0
     have:=(Array.getElem?_eq_some_iff.1 hc0).1
     exact⟨c,R,fz,hb,rfl,Nat.le_of_lt this⟩
   ·cases hc0
  subst hsp
  have ad:∀j,(⟨blk,off,none⟩:Addr).add j=⟨blk,off+j,none⟩:=fun j=>by simp[Addr.add]
  have each:∀i,i<len->∃y x,elems[i]? = some y/\rep e (zuK W) (piece cs.toList (off+i*tsz e) (tsz e)) x/\dsz e x<=Rows.uptoBulk y.1/\off+(i+1)*tsz e<=cs.toList.length:=fun i hi=>by
   have hg:=hget i hi
   obtain⟨y,hy⟩:∃y,elems[i]? = some y:=⟨_,List.getElem?_eq_getElem (by omega)⟩
   rw[hy]at hg
   obtain⟨us,hus,hg⟩:=Option.bind_eq_some_iff.1 hg
   obtain⟨_,hul,huc⟩:=World.cells?_some hus
   obtain⟨x,hx,hdx⟩:=hq m us y.1 y.2 hg
   rw[hc,ad]at huc
   rw[hc]at hul
   have hcell:∀j,j<tsz e->cs.toList[off+i*tsz e+j]? = us[j]?:=fun j hj=>by
    have:=huc j hj
    rw[show(⟨blk,off+i*tsz e,none⟩:Addr).add j=⟨blk,off+i*tsz e+j,none⟩ by simp[Addr.add]]at this
    simp only[World.cell?,hb,Option.isSome_none,if_neg (show ¬(false=true) by decide)]at this
    simpa using this
   have hlen:off+(i+1)*tsz e<=cs.toList.length:=by
    have h1:=hcell (tsz e-1) (by omega)
    rw[List.getElem?_eq_getElem (by omega:tsz e-1<us.length)]at h1
    have:=(List.getElem?_eq_some_iff.1 h1).1
    rw[Nat.add_mul];omega
   refine⟨y,x,hy,?_,hdx,hlen⟩
   have:piece cs.toList (off+i*tsz e) (tsz e)=us:=by
    apply List.ext_getElem?
    intro j
    rw[zaS,List.getElem?_take]
    by_cases hj:j<tsz e
    ·rw[if_pos hj,List.getElem?_drop];exact hcell j hj
    ·rw[if_neg hj,List.getElem?_eq_none (by omega)]
   rw[this];exact hx
  have key:∀k,k<=len->∃xs:List (den e),xs.length=k/\@RL (den e) (rpD e) (zuK W) (piece cs.toList off (k*tsz e)) xs/\(List.map (dsz e) xs).sum<=Rows.uptoBulkAll ((elems.take k).map (·.1)):=by
   intro k
   induction k with
   |zero=>intro _;exact⟨[],rfl,by simp[piece,RL],Nat.zero_le _⟩
   |succ k ih=>
    intro hk
    obtain⟨xs,h1,h2,h3⟩:=ih (by omega)
    obtain⟨y,x,g1,g2,g3,_⟩:=each k (by omega)
    refine⟨xs++[x],by simp[h1],?_,?_⟩
    ·have e2:piece cs.toList off ((k+1)*tsz e)=piece cs.toList off (k*tsz e)++piece cs.toList (off+k*tsz e) (tsz e):=by
      rw[zaS,zaS,zaS,Nat.add_mul,Nat.one_mul,List.take_add,List.drop_drop]
     rw[e2]
     exact xcK h2 g2
    ·rw[List.take_add_one,g1]
     simp only[Option.toList_some,List.map_append,List.map_cons,List.map_nil,List.sum_append,List.sum_cons,List.sum_nil,ytI,Rows.uptoBulkAll]
     omega
  obtain⟨xs,h1,h2,h3⟩:=key len (Nat.le_refl _)
  have hfit:off+len*tsz e<=cs.toList.length:=by
   rcases Nat.eq_zero_or_pos len with h0|h0
   ·subst h0;rw[Array.length_toList];omega
   ·obtain⟨_,_,_,_,_,h4⟩:=each (len-1) (by omega)
    rwa[Nat.sub_add_cancel h0]at h4
  refine⟨xs,⟨_,rfl,piece cs.toList off (len*tsz e),?_,h2⟩,?_⟩
  ·right
   refine⟨blk,off,cap,cs.toList,R,fz,?_,by rw[h1];exact hlc,by simpa[zuK]using hb,?_,?_⟩
   ·rw[h1]
   ·rw[h1];show _+_*(rpD e).sz<=_;rw[zjQ];exact hfit
   ·rw[h1];show piece _ _ (_*(rpD e).sz)=_;rw[zjQ]
  ·rw[List.take_of_length_le (by omega)]at h3
   show(List.map (dsz e) xs).sum+1<=_
   simp only[Rows.uptoBulk]
   omega
theorem ykN:∀(n:Nat) (T:TypeId) (t:Ty),tyOk P n T t=true->∀(fuel:Nat) (cs:LV) (d:DataW H) (ps:List MemPlace),DataW.trod enc P W 0 (fun _=>true) true fuel T cs=some (d,ps)->∃x:den t,rep t (zuK W) cs x/\dsz t x<=Rows.uptoBulk d
 |0,_,_,h,_,_,_,_,_=>by cases h
 |n+1,T,t,h,fuel,cs,d,ps,hd=>by
  unfold tyOk at h
  split at h
  ·rename_i k k' hu
   obtain⟨hk,_⟩:=Option.isSome_iff_exists.1 h
   obtain rfl:=hk.down
   obtain⟨m,rfl,he,hw⟩:=DataW.trod_int hu hd
   cases he
   exact⟨ofI _ m,(by show [Value.int _ m]=[.int _ (toI _ (ofI _ m))];rw[toI_wf hw]),Nat.le_refl 1⟩
  ·rename_i hu
   obtain⟨b,rfl,he⟩:=DataW.trod_bool hu hd
   cases he
   exact⟨b,rfl,Nat.le_refl 1⟩
  ·rename_i hu
   obtain⟨s,rfl,he,_⟩:=DataW.trod_string hu hd
   cases he
   exact⟨s.data.toList,(by show [Value.string s]=[str s.data.toList];simp[str]),Nat.le_refl _⟩
  ·rename_i E e hu
   rw[Bool.and_eq_true,Bool.and_eq_true]at h
   obtain⟨h1,h2,h3⟩:=h
   exact sl_of hu (Nat.eq_of_beq_eq_true h2) (by rw[zmE]at h3;simpa using h3) (fun m cs d ps hd=>ykN n E e h1 m cs d ps hd) hd
  ·rename_i fs hu
   rw[Bool.and_eq_true,Bool.and_eq_true]at h
   obtain⟨⟨h1,_⟩,h2⟩:=h
   have h1:=Nat.eq_of_beq_eq_true h1
   obtain⟨xs,fuel,rfl,he,hl,hxl,hm⟩:=DataW.trod_struct hu hd
   cases he
   obtain⟨x,hx,hb⟩:=ymT (S:=zuK W) (fuel:=fuel) (fun T' t' hq cs d ps=>ykN n T' t' hq fuel cs d ps) fs.toList 0 _ xs h2 (by rw[hl,h1];omega) (A2_get (by simp[hxl]) fun i f y hf hy=>(hm i f (by simpa using hf)).trans hy)
   exact⟨x,by simpa using hx,by simp only[Rows.uptoBulk];omega⟩
  ·cases h
variable {b0:Nat}{T E:TypeId}{v:Value}
theorem xfM{n:Nat}{e:Ty}(hu:P.underlying T=some (.slice E))(he:tyOk P n E e=true)(hc:P.cellsOf E=tsz e)(hz:0<tsz e)(h:Value.okWide P W .any b0 T v){d:DataW H}{ps:List MemPlace}(hd:DataW.Trod enc P W 0 (fun _=>true) true T v d ps):
  ∃xs:List (den e),@RdS (den e) (rpD e) (zuK W) v xs/\dsz (.sl e) xs<=Rows.uptoBulk d:=by
 obtain⟨fuel,hf⟩:=hd
 have hv:=ok_slice hu h
 have hcells:v.cells.toList=[v]:=by
  rcases hv with rfl|⟨a,len,cap,rfl⟩<;>rfl
 rw[hcells]at hf
 rcases DataW.trod_slice hu hf with⟨h1,h2⟩|⟨a,len,cap,elems,rest,m,rfl,h1,h2,_,hlc,_,hel,hget,_,_⟩
 ·simp only[List.cons.injEq,and_true]at h1
  subst h1
  cases h2
  exact⟨[],⟨[],.inl ⟨⟨none,rfl⟩,rfl,rfl⟩,rfl⟩,Nat.le_refl _⟩
 ·simp only[List.cons.injEq,and_true]at h1
  subst h1
  cases h2
  obtain⟨hsp,cs,R,fz,hb,ho⟩:=ok_place hu h
  obtain⟨blk,off,spot⟩:=a
  dsimp only at hsp hb ho
  subst hsp
  have ad:∀j,(⟨blk,off,none⟩:Addr).add j=⟨blk,off+j,none⟩:=fun j=>by simp[Addr.add]
  have each:∀i,i<len->∃y x,elems[i]? = some y/\rep e (zuK W) (piece cs.toList (off+i*tsz e) (tsz e)) x/\dsz e x<=Rows.uptoBulk y.1/\off+(i+1)*tsz e<=cs.toList.length:=fun i hi=>by
   have hg:=hget i hi
   obtain⟨y,hy⟩:∃y,elems[i]? = some y:=⟨_,List.getElem?_eq_getElem (by omega)⟩
   rw[hy]at hg
   obtain⟨us,hus,hg⟩:=Option.bind_eq_some_iff.1 hg
   obtain⟨_,hul,huc⟩:=World.cells?_some hus
   obtain⟨x,hx,hdx⟩:=ykN n E e he m us y.1 y.2 hg
   rw[hc,ad]at huc
   rw[hc]at hul
   have hcell:∀j,j<tsz e->cs.toList[off+i*tsz e+j]? = us[j]?:=fun j hj=>by
    have:=huc j hj
    rw[show(⟨blk,off+i*tsz e,none⟩:Addr).add j=⟨blk,off+i*tsz e+j,none⟩ by simp[Addr.add]]at this
    simp only[World.cell?,hb,Option.isSome_none,if_neg (show ¬(false=true) by decide)]at this
    simpa using this
   have hlen:off+(i+1)*tsz e<=cs.toList.length:=by
    have h1:=hcell (tsz e-1) (by omega)
    rw[List.getElem?_eq_getElem (by omega:tsz e-1<us.length)]at h1
    have:=(List.getElem?_eq_some_iff.1 h1).1
    rw[Nat.add_mul];omega
   refine⟨y,x,hy,?_,hdx,hlen⟩
   have:piece cs.toList (off+i*tsz e) (tsz e)=us:=by
    apply List.ext_getElem?
    intro j
    rw[zaS,List.getElem?_take]
    by_cases hj:j<tsz e
    ·rw[if_pos hj,List.getElem?_drop];exact hcell j hj
    ·rw[if_neg hj,List.getElem?_eq_none (by omega)]
   rw[this];exact hx
  have key:∀k,k<=len->∃xs:List (den e),xs.length=k/\@RL (den e) (rpD e) (zuK W) (piece cs.toList off (k*tsz e)) xs/\(List.map (dsz e) xs).sum<=Rows.uptoBulkAll ((elems.take k).map (·.1)):=by
   intro k
   induction k with
   |zero=>intro _;exact⟨[],rfl,by simp[piece,RL],Nat.zero_le _⟩
   |succ k ih=>
    intro hk
    obtain⟨xs,h1,h2,h3⟩:=ih (by omega)
    obtain⟨y,x,g1,g2,g3,_⟩:=each k (by omega)
    refine⟨xs++[x],by simp[h1],?_,?_⟩
    ·have e2:piece cs.toList off ((k+1)*tsz e)=piece cs.toList off (k*tsz e)++piece cs.toList (off+k*tsz e) (tsz e):=by
      rw[zaS,zaS,zaS,Nat.add_mul,Nat.one_mul,List.take_add,List.drop_drop]
     rw[e2]
     exact xcK h2 g2
    ·rw[List.take_add_one,g1]
     simp only[Option.toList_some,List.map_append,List.map_cons,List.map_nil,List.sum_append,List.sum_cons,List.sum_nil,ytI,Rows.uptoBulkAll]
     omega
  obtain⟨xs,h1,h2,h3⟩:=key len (Nat.le_refl _)
  have hfit:off+len*tsz e<=cs.toList.length:=by
   rcases Nat.eq_zero_or_pos len with h0|h0
   ·subst h0;rw[Array.length_toList];omega
   ·obtain⟨_,_,_,_,_,h4⟩:=each (len-1) (by omega)
    rwa[Nat.sub_add_cancel h0]at h4
  refine⟨xs,⟨piece cs.toList off (len*tsz e),?_,h2⟩,?_⟩
  ·right
   refine⟨blk,off,cap,cs.toList,R,fz,?_,by rw[h1];exact hlc,by simpa[zuK]using hb,?_,?_⟩
   ·rw[h1]
   ·rw[h1];show _+_*(rpD e).sz<=_;rw[zjQ];exact hfit
   ·rw[h1];show piece _ _ (_*(rpD e).sz)=_;rw[zjQ]
  ·rw[List.take_of_length_le (by omega)]at h3
   show(List.map (dsz e) xs).sum+1<=_
   simp only[Rows.uptoBulk]
   omega
def argOk(P:Program)(T:TypeId)(t:Ty):Bool:=match P.underlying T,t with
 |some (.slice E),.sl e=>tyOk P 8 E e&&(Nat.beq (P.cellsOf E) (tsz e)&&Nat.blt 0 (tsz e))
 |_,t=>tyOk P 8 T t
theorem argD_ok{t:Ty}(ha:argOk P T t=true)(h:Value.okWide P W .any b0 T v){d:DataW H}{ps:List MemPlace}(hd:DataW.Trod enc P W 0 (fun _=>true) true T v d ps):
  ∃x:den t,rep1 t (zuK W) v x/\dsz t x<=Rows.uptoBulk d:=by
 unfold argOk at ha
 split at ha
 ·rename_i E e hu
  rw[Bool.and_eq_true,Bool.and_eq_true]at ha
  obtain⟨h1,h2,h3⟩:=ha
  obtain⟨xs,g1,g2⟩:=xfM hu h1 (Nat.eq_of_beq_eq_true h2) (by rw[zmE]at h3;simpa using h3) h hd
  exact⟨xs,⟨v,rfl,g1⟩,g2⟩
 ·obtain⟨fuel,hf⟩:=hd
  obtain⟨x,hx,hb⟩:=ykN 8 T _ ha fuel _ _ _ hf
  refine⟨x,?_,hb⟩
  unfold rep1
  unfold tyOk at ha
  split at ha
  ·rename_i hu
   have hv:v.cells.toList=[v]:=by
    simp only[Value.okWide,Cell.okWide,Cell.ok]at h
    cases v<;>simp_all<;>rfl
   rw[hv]at hx
   rw[if_pos (show one (.i _)=true from rfl)];exact hx
  ·rename_i hu
   have hv:v.cells.toList=[v]:=by
    simp only[Value.okWide,Cell.okWide,Cell.ok]at h
    cases v<;>simp_all<;>rfl
   rw[hv]at hx
   rw[if_pos (show one .b=true from rfl)];exact hx
  ·rename_i hu
   have hv:v.cells.toList=[v]:=by
    simp only[Value.okWide,Cell.okWide,Cell.ok]at h
    cases v<;>simp_all<;>rfl
   rw[hv]at hx
   rw[if_pos (show one .s=true from rfl)];exact hx
  ·rename_i hu hno
   exact(hno _ _ hu rfl).elim
  ·rename_i fs hu _
   rw[Bool.and_eq_true,Bool.and_eq_true]at ha
   simp only[Value.okWide,hu]at h
   obtain⟨cs,rfl,_,_⟩:=h
   rw[if_neg (by simpa using ha.1.2)]
   exact⟨cs.toList,by simp,hx⟩
  ·cases ha
def posT:Ty->Bool
 |.un=>false
 |.pr a c=>posT a||posT c
 |_=>true
theorem yoZ:∀{e:Ty},posT e=true->∀x:den e,1<=dsz e x
 |.i _,_,_=>Nat.le_refl 1
 |.b,_,_=>Nat.le_refl 1
 |.s,_,_=>Nat.le_add_left 1 _
 |.er,_,_=>Nat.le_refl 1
 |.sl _,_,_=>Nat.le_add_left 1 _
 |.mp _ _,_,_=>Nat.le_refl 1
 |.pr a c,h,x=>by
  show 1<=dsz a x.1+dsz c x.2
  have h:(posT a||posT c)=true:=h
  rw[Bool.or_eq_true]at h
  rcases h with h|h
  ·have:=yoZ h x.1;omega
  ·have:=yoZ h x.2;omega
theorem ygD{e:Ty}(he:posT e=true):∀xs:List (den e),xs.length+1<=dsz (.sl e) xs
 |[]=>Nat.le_refl 1
 |x::xs=>by
  have h1:=yoZ he x
  have h2:xs.length+1<=(List.map (dsz e) xs).sum+1:=ygD he xs
  show(x::xs).length+1<=(List.map (dsz e) (x::xs)).sum+1
  simp only[List.length_cons,List.map_cons,List.sum_cons]
  omega
theorem rep1_vr{t:Ty}{S:Mem}{E:List EI}{v:Value}{x:den t}(h:rep1 t S v x):VR S E (svOf t x) v:=yzZ (l:=[t]) h
end
end Go.Proofs.YtopanhneegpgcaaGreatDoor.Am
namespace Go.Proofs.YtopanhneegpgcaaGreatDoor.Am
open Go Go.RowKit
theorem dsz_in{e:Ty}{x:den e}:∀{xs:List (den e)},x∈xs->dsz e x<=dsz (.sl e) xs
 |y::ys,h=>by
  show _<=(List.map (dsz e) (y::ys)).sum+1
  simp only[List.map_cons,List.sum_cons]
  rcases List.mem_cons.1 h with rfl|h
  ·omega
  ·have:dsz e x<=(List.map (dsz e) ys).sum+1:=dsz_in h
   omega
abbrev opT:Ty:=.pr (.i .i64) (.pr (.i .i64) (.pr .s (.pr .s (.pr .b (.pr (.pr .s (.sl .s)) (.pr .s (.pr .s (.pr (.sl .s) (.pr (.sl .s) (.pr .b (.pr .b (.pr .b .b))))))))))))
theorem opok_of{o:Opr}{k:Nat}(h:dsz opT o<=k)(hk:k<=1048576):Opok o:=by
 have e:dsz opT o=1+(1+(o.2.2.1.length+1+(o.2.2.2.1.length+1+(1+((o.2.2.2.2.2.1.1.length+1+dsz (.sl .s) o.2.2.2.2.2.1.2)+(o.2.2.2.2.2.2.1.length+1+(o.2.2.2.2.2.2.2.1.length+1+(dsz (.sl .s) o.2.2.2.2.2.2.2.2.1+(dsz (.sl .s) o.2.2.2.2.2.2.2.2.2.1+(1+(1+(1+1)))))))))))):=rfl
 have h1:o.2.2.2.2.2.1.2.length+1<=dsz (.sl .s) o.2.2.2.2.2.1.2:=ygD (e:=.s) rfl _
 have h2:o.2.2.2.2.2.2.2.2.1.length+1<=dsz (.sl .s) o.2.2.2.2.2.2.2.2.1:=ygD (e:=.s) rfl _
 have h3:o.2.2.2.2.2.2.2.2.2.1.length+1<=dsz (.sl .s) o.2.2.2.2.2.2.2.2.2.1:=ygD (e:=.s) rfl _
 rw[e]at h
 exact⟨by omega,by omega,by omega,by omega⟩
theorem ops_of{v:List Opr}{k:Nat}(h:dsz (.sl opT) v<=k)(hk:k<=1048576):(∀o∈v,Opok o)/\v.length<=1048576:=by
 have h1:v.length+1<=dsz (.sl opT) v:=ygD (e:=opT) rfl v
 exact⟨fun o ho=>opok_of (Nat.le_trans (dsz_in (e:=opT) ho) h) hk,by omega⟩
abbrev s0:PS:=(([]:UM),([]:GM),([]:RM),([]:CM),([]:MM))
theorem new_ok:ziR zaB=some s0:=rfl
theorem rhas_ok(l:List L8)(x:L8)(hl:l.length<=1048576):zgH zaB l x=some (l.contains x):=by
 have key:∀(f i:Nat),f+i=l.length->∀g,f<g->zoJ (zcE zaB l x) g (i:Int)=some (bif(l.drop i).contains x then .inl true else .inr ()):=by
  intro f
  induction f with
  |zero=>
   intro i hi g hg
   obtain⟨g,rfl⟩:∃m,g=m+1:=⟨g-1,by omega⟩
   have hi:i=l.length:=by omega
   subst hi
   rw[List.drop_length]
   refine zcF ?_
   unfold zcE
   rw[ziI (by omega)];rfl
  |succ f ih=>
   intro i hi g hg
   obtain⟨g,rfl⟩:∃m,g=m+1:=⟨g-1,by omega⟩
   have hlt:i<l.length:=by omega
   have hb:zcE zaB l x (i:Int)=bif l[i]==x then some (.inr (.inl true))else some (.inl ((i+1:Nat):Int)):=by
    unfold zcE
    rw[zhQ (by omega),ziE rfl hlt,zaA,zsJ (by omega)]
   rw[List.drop_eq_getElem_cons hlt,List.contains_cons]
   cases hx:l[i]==x with
   |true=>
    rw[hx]at hb
    rw[zcF (b:=.inl true) hb,show(x==l[i])=true by rw[beq_iff_eq]at hx ⊢;exact hx.symm];rfl
   |false=>
    rw[hx]at hb
    rw[zcG (s':=((i+1:Nat):Int)) hb,ih (i+1) (by omega) g (by omega),show(x==l[i])=false by rw[beq_eq_false_iff_ne]at hx ⊢;exact fun e=>hx e.symm,Bool.false_or]
 have h0:=key l.length 0 (by omega) FU (by unfold FU;omega)
 unfold zgH
 rw[show iter (zcE zaB l x) (0:Int)=_ from h0,zaA,List.drop_zero]
 cases l.contains x<;>rfl
theorem ysV{α:Type}{l:List α}{i:Nat}(h:i<l.length):chk (decide ((0:Int)<=(i:Int))&&decide ((i:Int)<(l.length:Int)))=some ():=by
 rw[decide_eq_true (show(0:Int)<=(i:Int) by omega),decide_eq_true (show(i:Int)<(l.length:Int) by omega)];rfl
def dgE(b:Bool):L8:=bif b then [49]else [48]
def lisE(l:List L8):List L8:=Lib.decDigits l.length::l
abbrev GrT:Type:=L8×List L8×List L8×List L8×Int
def txC(c:Cl):List L8:=[c.2.1,dgE c.2.2.2.2.1++dgE c.2.2.2.2.2.1++dgE c.2.2.2.2.2.2.1++dgE c.2.2.2.2.2.2.2]++(lisE c.2.2.1++lisE c.2.2.2.1)
def txG(g:GrT):List L8:=[Lib.decDigits g.2.2.2.2.toNat]++(lisE g.2.1++(lisE g.2.2.1++lisE g.2.2.2.1))
def txU(u:Us):List L8:=[u.2.1,dgE u.2.2.1,Lib.decDigits u.2.2.2.toNat]
def rowC(c:Cl):L8×L8:=([99,108,105,101,110,116,47]++c.1,zkF (txC c))
def rowG(g:GrT):L8×L8:=([103,114,111,117,112,47]++g.1,zkF (txG g))
def rowM(m:L8×L8):L8×L8:=([109,97,121,47]++m.1++[124]++m.2,zkF [])
def rowR(r:Ro):L8×L8:=([114,111,108,101,47]++r.1,zkF (lisE r.2))
def rowU(u:Us):L8×L8:=([117,115,101,114,47]++u.1,zkF (txU u))
def yhW(s:PS):List (L8×L8):=(clE s).map rowC++((grE s).map rowG++((maE s).map rowM++((roE s).map rowR++(usE s).map rowU)))
def yuJ(s:PS):List (L8×L8):=yeE (yhW s)
theorem ybN(b:Bool):zfZ zaB b=some (dgE b):=by cases b<;>rfl
theorem ymA(b:Bool):(dgE b).length=1:=by cases b<;>rfl
theorem ztR{l:List L8}(h:l.length<=1024):zcN zaB l=some (lisE l):=by
 unfold zcN
 rw[yqW _ (by omega),zaA,zkB (by simp;omega),zaA]
 rfl
theorem yfL{n:Nat}(h:n<=1099511627777):(Lib.decDigits n).length<=1024:=Nat.le_trans (ykY 13 n (by decide) (by omega)) (by decide)
theorem ycW{l:List L8}(h:l.length<=1000)(ht:∀t∈l,t.length<=1024):(lisE l).length<=1001/\∀t∈lisE l,t.length<=1024:=by
 unfold lisE
 refine⟨by simp;omega,fun t h'=>?_⟩
 rcases List.mem_cons.1 h' with rfl|h'
 ·exact yfL (by omega)
 ·exact ht t h'
theorem yyG{ls:List (List L8)}(h:∀l∈ls,l.length<=2000)(hl:ls.length<=8):ziP zaB ls=some ls.flatten:=by
 have k1:∀(f i a:Nat),f+i=ls.length->a<=2000*i->∀g,f<g->∃b:Nat,b<=16000/\zoJ (fun x:Int×Int=>zhI zaB ls x.1 x.2) g ((a:Int),(i:Int))=some (b:Int):=by
  intro f
  induction f with
  |zero=>
   intro i a hi ha g hg
   obtain⟨g,rfl⟩:∃m,g=m+1:=⟨g-1,by omega⟩
   refine⟨a,by omega,zcF ?_⟩
   unfold zhI
   simp only
   rw[ziI (by omega)]
  |succ f ih=>
   intro i a hi ha g hg
   obtain⟨g,rfl⟩:∃m,g=m+1:=⟨g-1,by omega⟩
   have hlt:i<ls.length:=by omega
   have hll:=h _ (List.getElem_mem hlt)
   obtain⟨b,hb,e⟩:=ih (i+1) (a+ls[i].length) (by omega) (by omega) g (by omega)
   refine⟨b,hb,(zcG ?_).trans e⟩
   unfold zhI
   simp only
   rw[zhQ (by omega),ziE rfl hlt,zaA,show w64 ((a:Int)+(ls[i].length:Int))=((a+ls[i].length:Nat):Int) by rw[zrL (by omega) (by omega)];omega,ziI (by omega),zsJ (by omega)]
 have k2:∀(f i:Nat) (acc:List L8),f+i=ls.length->acc.length<=2000*i->∀g,f<g->zoJ (fun x:Int×List L8=>zhH zaB ls x.1 x.2) g ((i:Int),acc)=some (acc++(ls.drop i).flatten):=by
  intro f
  induction f with
  |zero=>
   intro i acc hi ha g hg
   obtain⟨g,rfl⟩:∃m,g=m+1:=⟨g-1,by omega⟩
   have hi:i=ls.length:=by omega
   subst hi
   rw[List.drop_length,List.flatten_nil,List.append_nil]
   refine zcF ?_
   unfold zhH
   simp only
   rw[ziI (by omega)]
  |succ f ih=>
   intro i acc hi ha g hg
   obtain⟨g,rfl⟩:∃m,g=m+1:=⟨g-1,by omega⟩
   have hlt:i<ls.length:=by omega
   have hll:=h _ (List.getElem_mem hlt)
   rw[List.drop_eq_getElem_cons hlt,List.flatten_cons,<-List.append_assoc,<-ih (i+1) (acc++ls[i]) (by omega) (by rw[List.length_append];omega) g (by omega)]
   refine zcG ?_
   unfold zhH
   simp only
   rw[zhQ (by omega),ziE rfl hlt,zaA,zkB (by omega),zaA,zsJ (by omega)]
 obtain⟨b,hb,e1⟩:=k1 ls.length 0 0 (by omega) (by omega) FU (by unfold FU;omega)
 have e2:=k2 ls.length 0 [] (by omega) (by simp) FU (by unfold FU;omega)
 unfold ziP
 rw[show iter (fun x:Int×Int=>zhI zaB ls x.1 x.2) ((0:Int),(0:Int))=_ from e1,zaA]
 have e3:yqG .s (b:Int)=some ([]:List L8):=by
  unfold yqG
  rw[decide_eq_true (show(0:Int)<=(b:Int) by omega),decide_eq_true (show(b:Int)<=1048576 by omega)];rfl
 refine Eq.trans (bind_ok e3) ?_
 rw[show iter (fun x:Int×List L8=>zhH zaB ls x.1 x.2) ((0:Int),([]:List L8))=_ from e2,zaA]
 rfl
theorem tx_len{s:L8}(h:txB s=true):s.length<=1024:=by
 by_cases hs:s.length<=1048576
 ·rw[tx_is s hs,Bool.and_eq_true,Bool.and_eq_true]at h
  have:=of_decide_eq_true h.1.2
  omega
 ·exfalso
  have h1:=yzY s
  rw[h]at h1
  unfold zcM at h1
  have hne:(s != ([]:L8))=true:=by
   cases s with
   |nil=>exact absurd (Nat.zero_le _) hs
   |cons a l=>rfl
  rw[hne,cond_true,ziI (by omega)]at h1
  cases h1
theorem sc_len{s:L8}(h:scB s=true):s.length<=1024:=by
 rw[sc_is,Bool.and_eq_true,Bool.and_eq_true]at h
 have:=of_decide_eq_true h.1.2
 omega
theorem ybO{n:Nat}{may:L8->Bool}{l:List L8}(h:ybI n may l=true):(∀t∈l,may t=true)/\RiL l/\l.length<=n:=by
 unfold ybI at h
 simp only[Bool.and_eq_true,decide_eq_true_eq,List.all_eq_true]at h
 exact⟨h.1.1,ycN.1 h.1.2,h.2⟩
theorem ynM{c:Cl}(h:cliB c=true):nmB c.1=true/\c.2.1.length<=64/\ybI 16 txB c.2.2.1=true/\ybI 16 scB c.2.2.2.1=true:=by
 unfold cliB at h
 simp only[Bool.and_eq_true,Bool.or_eq_true,decide_eq_true_eq,beq_iff_eq]at h
 obtain⟨⟨⟨h1,h2⟩,h3⟩,h4⟩:=h
 refine⟨h1,?_,h3,h4⟩
 rcases h2 with h2|h2
 ·rw[h2];exact Nat.zero_le _
 ·omega
theorem txC_ok{c:Cl}(h:cliB c=true):(txC c).length<=1024/\(∀t∈txC c,t.length<=1024)/\(lisE c.2.2.1).length<=2000/\(lisE c.2.2.2.1).length<=2000:=by
 obtain⟨_,h2,h3,h4⟩:=ynM h
 obtain⟨a1,_,a3⟩:=ybO h3
 obtain⟨b1,_,b3⟩:=ybO h4
 have l1:=ycW (l:=c.2.2.1) (by omega) fun t ht=>tx_len (a1 t ht)
 have l2:=ycW (l:=c.2.2.2.1) (by omega) fun t ht=>sc_len (b1 t ht)
 have e1:(lisE c.2.2.1).length=c.2.2.1.length+1:=rfl
 have e2:(lisE c.2.2.2.1).length=c.2.2.2.1.length+1:=rfl
 refine⟨?_,fun t ht=>?_,by omega,by omega⟩
 ·unfold txC
  simp only[List.length_append,List.length_cons,List.length_nil,e1,e2];omega
 ·unfold txC at ht
  rcases List.mem_append.1 ht with ht|ht
  ·rcases List.mem_cons.1 ht with rfl|ht
   ·omega
   ·rw[List.mem_singleton.1 ht]
    simp only[List.length_append,ymA];omega
  ·rcases List.mem_append.1 ht with ht|ht
   ·exact l1.2 t ht
   ·exact l2.2 t ht
def GrOk(g:GrT):Prop:=g.1.length<=24/\(g.2.1.length<=64/\∀t∈g.2.1,t.length<=24)/\(g.2.2.1.length<=64/\∀t∈g.2.2.1,t.length<=24)/\(g.2.2.2.1.length<=64/\∀t∈g.2.2.2.1,t.length<=24)/\1<=g.2.2.2.2/\g.2.2.2.2<=1099511627776
theorem PInv.hasK_nm{B:Int}{s:PS}(h:PInv B s){i:Nat}(hi:i<3){x:L8}(hx:hasK i s x=true):nmB x=true:=by
 match i,hi with
 |0,_=>
  obtain⟨v,hv⟩:=kS.has_iff.1 (show mhas keqS s.1 x=true from hx)
  exact(h.us x v hv).2.1
 |1,_=>
  obtain⟨v,hv⟩:=kS.has_iff.1 (show mhas keqS s.2.1 x=true from hx)
  exact(h.gn x v hv).1
 |2,_=>
  obtain⟨v,hv⟩:=kS.has_iff.1 (show mhas keqS s.2.2.1 x=true from hx)
  have h1:=h.ro x v hv
  have h2:=zaT h1.2
  rw[h1.1]at h2;exact h2
theorem gr_ok{B:Int}(hB:B<=1099511627776){s:PS}(h:PInv B s):∀g∈grE s,GrOk g:=fun g hg=>by
 obtain⟨p,hp,rfl⟩:=List.mem_map.1 hg
 have h1:=h.gn p.1 p.2 hp
 have h2:=fun i hi=>(h.gl p.1 p.2 hp i hi).2
 refine⟨zkK h1.1,⟨h.lst_len hp (i:=0) (by decide),fun t ht=>zkK (h.hasK_nm (i:=0) (by decide) (h2 0 (by decide) t ht))⟩,⟨h.lst_len hp (i:=1) (by decide),fun t ht=>zkK (h.hasK_nm (i:=1) (by decide) (h2 1 (by decide) t ht))⟩,⟨h.lst_len hp (i:=2) (by decide),fun t ht=>zkK (h.hasK_nm (i:=2) (by decide) (h2 2 (by decide) t ht))⟩,h1.2.1,?_⟩
 have:=h1.2.2
 show p.2.2<=_
 omega
theorem txG_ok{g:GrT}(h:GrOk g):(txG g).length<=1024/\(∀t∈txG g,t.length<=1024):=by
 obtain⟨_,⟨a1,a2⟩,⟨b1,b2⟩,⟨c1,c2⟩,d1,d2⟩:=h
 have l1:=ycW (l:=g.2.1) (by omega) fun t ht=>Nat.le_trans (a2 t ht) (by decide)
 have l2:=ycW (l:=g.2.2.1) (by omega) fun t ht=>Nat.le_trans (b2 t ht) (by decide)
 have l3:=ycW (l:=g.2.2.2.1) (by omega) fun t ht=>Nat.le_trans (c2 t ht) (by decide)
 have e1:(lisE g.2.1).length=g.2.1.length+1:=rfl
 have e2:(lisE g.2.2.1).length=g.2.2.1.length+1:=rfl
 have e3:(lisE g.2.2.2.1).length=g.2.2.2.1.length+1:=rfl
 refine⟨?_,fun t ht=>?_⟩
 ·unfold txG
  simp only[List.length_append,List.length_cons,List.length_nil,e1,e2,e3];omega
 ·unfold txG at ht
  rcases List.mem_append.1 ht with ht|ht
  ·rw[List.mem_singleton.1 ht];exact yfL (by omega)
  ·rcases List.mem_append.1 ht with ht|ht
   ·exact l1.2 t ht
   ·rcases List.mem_append.1 ht with ht|ht
    ·exact l2.2 t ht
    ·exact l3.2 t ht
theorem ypQ{k:L8}{ts:List L8}{acc:List (L8×L8)}(h:ts.length<=1024/\∀t∈ts,t.length<=1024)(ha:acc.length<=1048576):zbX zaB k ts acc=some (acc++[(k,zkF ts)]):=by
 unfold zbX
 rw[ycK h.2 h.1,zaA,zkB (by simp;omega),zaA]
theorem ykE{γ:Type}{es:List γ}{s:PS}{f:γ->L8×L8}{body:Int×UM×GM×RM×CM×MM×List γ×List (L8×L8)->Option ((Int×UM×GM×RM×CM×MM×List γ×List (L8×L8))⊕(UM×GM×RM×CM×MM×List (L8×L8)))}(hl:es.length<=1024)
  (hb:∀(i:Nat) (hi:i<es.length) (acc:List (L8×L8)),acc.length<=8192->body ((i:Int),s.1,s.2.1,s.2.2.1,s.2.2.2.1,s.2.2.2.2,es,acc)=some (.inl (((i+1:Nat):Int),s.1,s.2.1,s.2.2.1,s.2.2.2.1,s.2.2.2.2,es,acc++[f es[i]])))
  (he:∀acc,body ((es.length:Int),s.1,s.2.1,s.2.2.1,s.2.2.2.1,s.2.2.2.2,es,acc)=some (.inr (s.1,s.2.1,s.2.2.1,s.2.2.2.1,s.2.2.2.2,acc))) (acc:List (L8×L8)) (ha:acc.length<=4096):iter body ((0:Int),s.1,s.2.1,s.2.2.1,s.2.2.2.1,s.2.2.2.2,es,acc)=some (s.1,s.2.1,s.2.2.1,s.2.2.2.1,s.2.2.2.2,acc++es.map f):=by
 have key:∀(k i:Nat) (acc:List (L8×L8)),k+i=es.length->acc.length+k<=8192->∀g,k<g->zoJ body g ((i:Int),s.1,s.2.1,s.2.2.1,s.2.2.2.1,s.2.2.2.2,es,acc)=some (s.1,s.2.1,s.2.2.1,s.2.2.2.1,s.2.2.2.2,acc++(es.drop i).map f):=by
  intro k
  induction k with
  |zero=>
   intro i acc hi _ g hg
   obtain⟨g,rfl⟩:∃m,g=m+1:=⟨g-1,by omega⟩
   have hi:i=es.length:=by omega
   subst hi
   rw[zcF (he acc),List.drop_length,List.map_nil,List.append_nil]
  |succ k ih=>
   intro i acc hi ha g hg
   obtain⟨g,rfl⟩:∃m,g=m+1:=⟨g-1,by omega⟩
   have hlt:i<es.length:=by omega
   rw[zcG (hb i hlt acc (by omega)),ih (i+1) _ (by omega) (by simp;omega) g (by omega),List.drop_eq_getElem_cons hlt,List.map_cons,List.append_assoc]
   rfl
 have:=key es.length 0 acc (by omega) (by omega) FU (by unfold FU;omega)
 rw[List.drop_zero]at this
 exact this
theorem app_c(a:L8){n:L8}(ha:a.length<=64)(h:n.length<=24):app a n=some (a++n):=zkB (by omega)
theorem roE_mem{B:Int}{s:PS}(h:PInv B s):∀r∈roE s,yjV r=true:=fun r hr=>by
 obtain⟨p,hp,rfl⟩:=List.mem_map.1 hr
 exact(h.ro p.1 p.2 hp).2
theorem clE_mem{B:Int}{s:PS}(h:PInv B s):∀c∈clE s,cliB c=true:=fun c hc=>by
 obtain⟨p,hp,rfl⟩:=List.mem_map.1 hc
 exact(h.cl p.1 p.2 hp).2
theorem usE_mem{B:Int}{s:PS}(h:PInv B s):∀u∈usE s,nmB u.1=true/\txB u.2.1=true/\1<=u.2.2.2/\u.2.2.2<=B:=fun u hu=>by
 obtain⟨p,hp,rfl⟩:=List.mem_map.1 hu
 have:=h.us p.1 p.2 hp
 have e:p.2.1=p.1:=this.1
 exact⟨by rw[e];exact this.2.1,this.2.2⟩
theorem pr_len{p:L8}(h:prB p=true):p.length<=26:=by
 obtain⟨c,l,rfl,_,hl⟩:=yfH h
 have:=zkK hl
 simp only[List.length_cons];omega
theorem yqD{B:Int}{s:PS}(h:PInv B s):∀m∈maE s,prB m.1=true/\prB m.2=true:=fun m hm=>by
 obtain⟨p,hp,rfl⟩:=List.mem_map.1 hm
 have:=h.ma p hp
 exact⟨this.1,this.2.1⟩
theorem ynO:∀{l:List L8},l.Nodup->nodupB l=true
 |[],_=>rfl
 |x::l,h=>by
  have hc:=List.nodup_cons.1 h
  unfold nodupB
  rw[ynO hc.2,Bool.and_true,Bool.not_eq_true',List.any_eq_false]
  intro y hy
  simp only[beq_iff_eq]
  exact fun e=>hc.1 (by rw[<-e];exact hy)
theorem no_bar{p:L8}(h:prB p=true):(124:UInt8)∉p:=by
 obtain⟨c,l,rfl,hc,hl⟩:=yfH h
 rw[nm_is,Bool.and_eq_true,Bool.and_eq_true,List.all_eq_true]at hl
 intro hm
 rcases List.mem_cons.1 hm with e|hm
 ·rcases hc with rfl|rfl<;>cases e
 ·rcases List.mem_cons.1 hm with e|hm
  ·cases e
  ·have:=hl.2 _ hm
   rw[let_bar]at this;cases this
theorem xbV:∀{a c:L8} {b d:L8},(124:UInt8)∉a->(124:UInt8)∉c->a++124::b=c++124::d->a=c/\b=d
 |[],[],b,d,_,_,e=>⟨rfl,by simpa using e⟩
 |[],x::c,b,d,_,hc,e=>by
  have:(124:UInt8)=x:=by injection e
  exact absurd (by rw[this];exact List.mem_cons_self) hc
 |x::a,[],b,d,ha,_,e=>by
  have:x=(124:UInt8):=by injection e
  exact absurd (by rw[this];exact List.mem_cons_self) ha
 |x::a,y::c,b,d,ha,hc,e=>by
  have e1:x=y:=by injection e
  have e2:a++124::b=c++124::d:=by injection e
  obtain⟨h1,h2⟩:=xbV (fun h=>ha (List.mem_cons_of_mem _ h)) (fun h=>hc (List.mem_cons_of_mem _ h)) e2
  exact⟨by rw[e1,h1],h2⟩
theorem rows_nodup{B:Int}{s:PS}(h:PInv B s):((yhW s).map (·.1)).Nodup:=by
 have nd:∀{γ δ:Type} {es:List (L8×γ)} {pre:L8} {f:δ->L8×L8} {g:L8×γ->δ},Ri kltS es->(∀p∈es,(f (g p)).1=pre++p.1)->(((es.map g).map f).map (·.1)).Nodup:=fun {γ δ es pre f g} hR hf=>by
  have e:((es.map g).map f).map (·.1)=(es.map (·.1)).map (pre ++ ·):=by
   rw[List.map_map,List.map_map,List.map_map]
   exact List.map_congr_left fun p hp=>hf p hp
  rw[e]
  refine List.Pairwise.map _ (fun a b hab e=>hab (List.append_cancel_left e)) (RiL.nodup (List.pairwise_map.2 hR))
 have n1:(((clE s).map rowC).map (·.1)).Nodup:=nd (g:=fun p:L8×Cl=>p.2) (pre:=[99,108,105,101,110,116,47]) h.cR fun p hp=>by
  show _++p.2.1=_
  rw[(h.cl p.1 p.2 hp).1]
 have n2:(((grE s).map rowG).map (·.1)).Nodup:=nd (g:=fun p:L8×Gr=>(p.1,p.2.1.1,p.2.1.2.1,p.2.1.2.2,p.2.2)) (pre:=[103,114,111,117,112,47]) h.gR fun p hp=>rfl
 have n4:(((roE s).map rowR).map (·.1)).Nodup:=nd (g:=fun p:L8×Ro=>p.2) (pre:=[114,111,108,101,47]) h.rR fun p hp=>by
  show _++p.2.1=_
  rw[(h.ro p.1 p.2 hp).1]
 have n5:(((usE s).map rowU).map (·.1)).Nodup:=nd (g:=fun p:L8×Us=>p.2) (pre:=[117,115,101,114,47]) h.uR fun p hp=>by
  show _++p.2.1=_
  rw[(h.us p.1 p.2 hp).1]
 have n3:(((maE s).map rowM).map (·.1)).Nodup:=by
  rw[List.map_map]
  have hn:(maE s).Nodup:=(List.pairwise_map.2 (h.mR.imp fun {p q} hpq=>kSS.lt_ne hpq):(s.2.2.2.2.map (·.1)).Pairwise (· ≠ ·))
  refine List.pairwise_map.2 (List.Pairwise.imp_of_mem (fun {a b} ha hb hab e=>?_) hn)
  have e:[109,97,121,47]++a.1++[124]++a.2=[109,97,121,47]++b.1++[124]++b.2:=e
  rw[List.append_assoc,List.append_assoc,List.append_assoc,List.append_assoc]at e
  obtain⟨h1,h2⟩:=xbV (no_bar (yqD h a ha).1) (no_bar (yqD h b hb).1) (List.append_cancel_left e)
  exact hab (Prod.ext h1 h2)
 have hd:∀{γ:Type} {l:List γ} {f:γ->L8×L8} {c:UInt8},(∀x,(f x).1.head? = some c)->∀k∈(l.map f).map (·.1),k.head? = some c:=fun {γ l f c} hf k hk=>by
  rw[List.map_map]at hk
  obtain⟨x,_,rfl⟩:=List.mem_map.1 hk
  exact hf x
 have d1:=hd (l:=clE s) (f:=rowC) (c:=99) fun _=>rfl
 have d2:=hd (l:=grE s) (f:=rowG) (c:=103) fun _=>rfl
 have d3:=hd (l:=maE s) (f:=rowM) (c:=109) fun _=>rfl
 have d4:=hd (l:=roE s) (f:=rowR) (c:=114) fun _=>rfl
 have d5:=hd (l:=usE s) (f:=rowU) (c:=117) fun _=>rfl
 unfold yhW
 simp only[List.map_append]at *
 refine List.nodup_append.2 ⟨n1,List.nodup_append.2 ⟨n2,List.nodup_append.2 ⟨n3,List.nodup_append.2 ⟨n4,n5,fun a ha b hb e=>?_⟩,fun a ha b hb e=>?_⟩,fun a ha b hb e=>?_⟩,fun a ha b hb e=>?_⟩
 ·have h1:=d4 a ha
  have h2:=d5 b hb
  rw[e,h2]at h1;cases h1
 ·have h1:=d3 a ha
  rw[e]at h1
  rcases List.mem_append.1 hb with hb|hb
  ·rw[d4 b hb]at h1;cases h1
  ·rw[d5 b hb]at h1;cases h1
 ·have h1:=d2 a ha
  rw[e]at h1
  rcases List.mem_append.1 hb with hb|hb
  ·rw[d3 b hb]at h1;cases h1
  ·rcases List.mem_append.1 hb with hb|hb
   ·rw[d4 b hb]at h1;cases h1
   ·rw[d5 b hb]at h1;cases h1
 ·have h1:=d1 a ha
  rw[e]at h1
  rcases List.mem_append.1 hb with hb|hb
  ·rw[d2 b hb]at h1;cases h1
  ·rcases List.mem_append.1 hb with hb|hb
   ·rw[d3 b hb]at h1;cases h1
   ·rcases List.mem_append.1 hb with hb|hb
    ·rw[d4 b hb]at h1;cases h1
    ·rw[d5 b hb]at h1;cases h1
theorem rows_ok{B:Int}(hB:B<=1099511627776){s:PS}(h:PInv B s):zbS zaB s.1 s.2.1 s.2.2.1 s.2.2.2.1 s.2.2.2.2=some (yuJ s,s):=by
 have lc:(clE s).length<=32:=by unfold clE;rw[List.length_map];exact h.cL
 have lg:(grE s).length<=32:=by unfold grE;rw[List.length_map];exact h.gL
 have lm:(maE s).length<=64:=by unfold maE;rw[List.length_map];exact h.mL
 have lr:(roE s).length<=32:=by unfold roE;rw[List.length_map];exact h.rL
 have lu:(usE s).length<=64:=by unfold usE;rw[List.length_map];exact h.uL
 unfold zbS
 rw[yvF h,zaA]
 simp only
 rw[ykE (s:=s) (es:=clE s) (f:=rowC) (by omega) (fun i hi acc ha=>by
  obtain⟨c,hc⟩:∃c,(clE s)[i]=c:=⟨_,rfl⟩
  have hcb:=clE_mem h _ (List.getElem_mem hi)
  rw[hc]at hcb
  obtain⟨t1,t2,t3,t4⟩:=txC_ok hcb
  obtain⟨q1,q2,q3,q4⟩:=ynM hcb
  have q5:=(ybO q3).2.2
  have q6:=(ybO q4).2.2
  simp only
  unfold ziG
  simp only
  rw[zhQ (by omega),ysV hi,zaA,ziE rfl hi,zaA,hc,app_c _ (by decide) (zkK q1),zaA,ybN,zaA,ybN,zaA,zkB (by simp only[ymA];omega),zaA,ybN,zaA,zkB (by simp only[List.length_append,ymA];omega),zaA,ybN,zaA,zkB (by simp only[List.length_append,ymA];omega),zaA,ztR (by omega),zaA,ztR (by omega),zaA,yyG (fun l hl=>by
   rcases List.mem_cons.1 hl with rfl|hl
   ·simp
   ·rcases List.mem_cons.1 hl with rfl|hl
    ·exact t3
    ·rw[List.mem_singleton.1 hl];exact t4) (by simp),zaA]
  have e:[[c.2.1,dgE c.2.2.2.2.1++dgE c.2.2.2.2.2.1++dgE c.2.2.2.2.2.2.1++dgE c.2.2.2.2.2.2.2],lisE c.2.2.1,lisE c.2.2.2.1].flatten=txC c:=by
   unfold txC
   simp only[List.flatten_cons,List.flatten_nil,List.append_nil]
  rw[e,ypQ (k:=[99,108,105,101,110,116,47]++c.1) (ts:=txC c) ⟨t1,t2⟩ (by omega),zaA,zsJ (by omega)]
  rfl) (fun acc=>by
  simp only
  unfold ziG
  simp only
  rw[ziI (by omega)]) [] (by simp),zaA]
 simp only
 rw[xbQ h,zaA]
 simp only
 rw[ykE (s:=s) (es:=grE s) (f:=rowG) (by omega) (fun i hi acc ha=>by
  obtain⟨g,hg⟩:∃g,(grE s)[i]=g:=⟨_,rfl⟩
  have hgb:=gr_ok hB h _ (List.getElem_mem hi)
  rw[hg]at hgb
  obtain⟨t1,t2⟩:=txG_ok hgb
  obtain⟨q1,q2,q3,q4,q5,q6⟩:=hgb
  obtain⟨n,hn⟩:∃n:Nat,g.2.2.2.2=(n:Int):=⟨g.2.2.2.2.toNat,by omega⟩
  simp only
  unfold ziS
  simp only
  rw[zhQ (by omega),ysV hi,zaA,ziE rfl hi,zaA,hg,app_c _ (by decide) q1,zaA,hn,yqW n (by omega),zaA,ztR (by omega),zaA,ztR (by omega),zaA,ztR (by omega),zaA,yyG (fun l hl=>by
   have e1:(lisE g.2.1).length=g.2.1.length+1:=rfl
   have e2:(lisE g.2.2.1).length=g.2.2.1.length+1:=rfl
   have e3:(lisE g.2.2.2.1).length=g.2.2.2.1.length+1:=rfl
   rcases List.mem_cons.1 hl with rfl|hl
   ·simp
   ·rcases List.mem_cons.1 hl with rfl|hl
    ·omega
    ·rcases List.mem_cons.1 hl with rfl|hl
     ·omega
     ·rw[List.mem_singleton.1 hl];omega) (by simp),zaA]
  have e:[[Lib.decDigits n],lisE g.2.1,lisE g.2.2.1,lisE g.2.2.2.1].flatten=txG g:=by
   unfold txG
   rw[hn,Int.toNat_natCast]
   simp only[List.flatten_cons,List.flatten_nil,List.append_nil]
  rw[e,ypQ (k:=[103,114,111,117,112,47]++g.1) (ts:=txG g) ⟨t1,t2⟩ (by omega),zaA,zsJ (by omega)]
  rfl) (fun acc=>by
  simp only
  unfold ziS
  simp only
  rw[ziI (by omega)]) _ (by simp only[List.nil_append,List.length_map];omega),zaA]
 simp only
 rw[mays_ok h,zaA]
 simp only
 have hm:∀(k i:Nat) (acc:List (L8×L8)),k+i=(maE s).length->acc.length+k<=8192->∀g,k<g->zoJ (fun x:Int×UM×GM×RM×CM×MM×List (L8×L8)=>zfJ zaB (maE s,s) x.1 x.2.1 x.2.2.1 x.2.2.2.1 x.2.2.2.2.1 x.2.2.2.2.2.1 x.2.2.2.2.2.2) g ((i:Int),s.1,s.2.1,s.2.2.1,s.2.2.2.1,s.2.2.2.2,acc)=some (s.1,s.2.1,s.2.2.1,s.2.2.2.1,s.2.2.2.2,acc++((maE s).drop i).map rowM):=by
  intro k
  induction k with
  |zero=>
   intro i acc hi _ g hg
   obtain⟨g,rfl⟩:∃m,g=m+1:=⟨g-1,by omega⟩
   have hi:i=(maE s).length:=by omega
   subst hi
   rw[List.drop_length,List.map_nil,List.append_nil]
   refine zcF ?_
   simp only
   unfold zfJ
   rw[ziI (by simp only;omega)]
  |succ k ih=>
   intro i acc hi ha g hg
   obtain⟨g,rfl⟩:∃m,g=m+1:=⟨g-1,by omega⟩
   have hlt:i<(maE s).length:=by omega
   rw[List.drop_eq_getElem_cons hlt,List.map_cons,show acc++(rowM (maE s)[i]::((maE s).drop (i+1)).map rowM)=(acc++[rowM (maE s)[i]])++((maE s).drop (i+1)).map rowM by rw[List.append_assoc];rfl,<-ih (i+1) (acc++[rowM (maE s)[i]]) (by omega) (by simp;omega) g (by omega)]
   refine zcG ?_
   have hmm:=yqD h _ (List.getElem_mem hlt)
   have p1:=pr_len hmm.1
   have p2:=pr_len hmm.2
   simp only
   unfold zfJ
   simp only
   rw[zhQ (by omega),ziE rfl hlt,zaA,zkB (by simp;omega),zaA,zkB (by simp;omega),zaA,zkB (by simp;omega),zaA]
   unfold zgX
   rw[ycK (fun _ h=>by cases h) (by simp),zaA,zkB (by simp;omega),zaA,zaA,zsJ (by omega)]
   rfl
 rw[show iter _ ((0:Int),s.1,s.2.1,s.2.2.1,s.2.2.2.1,s.2.2.2.2,_)=_ from hm (maE s).length 0 _ (by omega) (by simp only[List.nil_append,List.length_append,List.length_map];omega) FU (by unfold FU;omega),zaA,List.drop_zero]
 simp only
 rw[xfS h,zaA]
 simp only
 rw[ykE (s:=s) (es:=roE s) (f:=rowR) (by omega) (fun i hi acc ha=>by
  obtain⟨r,hr⟩:∃r,(roE s)[i]=r:=⟨_,rfl⟩
  have hrb:=roE_mem h _ (List.getElem_mem hi)
  rw[hr]at hrb
  have q1:=ybO (zaY hrb)
  have l1:=ycW (l:=r.2) (by omega) fun t ht=>sc_len (q1.1 t ht)
  simp only
  unfold zjC
  simp only
  rw[zhQ (by omega),ysV hi,zaA,ziE rfl hi,zaA,hr,app_c _ (by decide) (zkK (zaT hrb)),zaA,ztR (by omega),zaA,ypQ (k:=[114,111,108,101,47]++r.1) (ts:=lisE r.2) ⟨by omega,l1.2⟩ (by omega),zaA,zsJ (by omega)]
  rfl) (fun acc=>by
  simp only
  unfold zjC
  simp only
  rw[ziI (by omega)]) _ (by simp only[List.nil_append,List.length_append,List.length_map];omega),zaA]
 simp only
 rw[xcP h,zaA]
 simp only
 rw[ykE (s:=s) (es:=usE s) (f:=rowU) (by omega) (fun i hi acc ha=>by
  obtain⟨u,hu⟩:∃u,(usE s)[i]=u:=⟨_,rfl⟩
  obtain⟨q1,q2,q3,q4⟩:=usE_mem h _ (List.getElem_mem hi)
  rw[hu]at q1 q2 q3 q4
  obtain⟨n,hn⟩:∃n:Nat,u.2.2.2=(n:Int):=⟨u.2.2.2.toNat,by omega⟩
  simp only
  unfold ziU
  simp only
  rw[zhQ (by omega),ysV hi,zaA,ziE rfl hi,zaA,hu,app_c _ (by decide) (zkK q1),zaA,ybN,zaA,hn,yqW n (by omega),zaA]
  unfold zgW
  have ht:∀t∈[u.2.1,dgE u.2.2.1,Lib.decDigits n],t.length<=1024:=fun t ht=>by
   rcases List.mem_cons.1 ht with rfl|ht
   ·exact tx_len q2
   ·rcases List.mem_cons.1 ht with rfl|ht
    ·rw[ymA];decide
    ·rw[List.mem_singleton.1 ht];exact yfL (by omega)
  rw[ycK ht (by simp),zaA,zkB (by simp;omega),zaA,zaA,zsJ (by omega)]
  have e:rowU u=([117,115,101,114,47]++u.1,zkF [u.2.1,dgE u.2.2.1,Lib.decDigits n]):=by
   unfold rowU txU
   rw[hn,Int.toNat_natCast]
  rw[e]) (fun acc=>by
  simp only
  unfold ziU
  simp only
  rw[ziI (by omega)]) _ (by simp only[List.nil_append,List.length_append,List.length_map];omega),zaA]
 simp only
 have e0:((([]++(clE s).map rowC)++(grE s).map rowG)++(maE s).map rowM++(roE s).map rowR)++(usE s).map rowU=yhW s:=by
  unfold yhW
  simp only[List.nil_append,List.append_assoc]
 rw[e0]
 have e1:ydQ (yhW s)=some (yuJ s):=by
  unfold ydQ yuJ
  have hl:(yhW s).length<1152921504606846976:=by
   unfold yhW
   simp only[List.length_append,List.length_map];omega
  rw[ynO (rows_nodup h),decide_eq_true hl];rfl
 rw[e1,zaA]
def τWkG:TE:=[(3,⟨.int .i64,1,[.v (.i .i64) (show Int from 0)],(.i .i64),8⟩),
 (9,⟨.s,1,[.v .s (show Bs from [])],.s,16⟩),
 (22,⟨.sl 9,1,[.nils],(.sl .s),24⟩),
 (31,⟨.sl 33,1,[.nils],(.sl (.pr .s .s)),24⟩),
 (33,⟨.st [(9,0),(9,1)],2,[.v .s (show Bs from []),.v .s (show Bs from [])],(.pr .s .s),32⟩),
 (34,⟨.pt 128,1,[.nilp],.un,8⟩),
 (45,⟨.sl 53,1,[.nils],(.sl (.pr (.i .i64) (.pr (.i .i64) (.pr .s (.pr .s (.pr .b (.pr (.pr .s (.sl .s)) (.pr .s (.pr .s (.pr (.sl .s) (.pr (.sl .s) (.pr .b (.pr .b (.pr .b .b)))))))))))))),24⟩),
 (53,⟨.st [(3,0),(3,1),(9,2),(9,3),(4,4),(49,5),(51,7)],15,[.v (.i .i64) (show Int from 0),.v (.i .i64) (show Int from 0),.v .s (show Bs from []),.v .s (show Bs from []),.v .b (show Bool from false),.v .s (show Bs from []),.nils,.v .s (show Bs from []),.v .s (show Bs from []),.nils,.nils,.v .b (show Bool from false),.v .b (show Bool from false),.v .b (show Bool from false),.v .b (show Bool from false)],(.pr (.i .i64) (.pr (.i .i64) (.pr .s (.pr .s (.pr .b (.pr (.pr .s (.sl .s)) (.pr .s (.pr .s (.pr (.sl .s) (.pr (.sl .s) (.pr .b (.pr .b (.pr .b .b))))))))))))),184⟩)]
theorem τ_okWkG:TEok Tryz.prog τWkG:=xaJ (by kernel_rfl) (by kernel_rfl)
theorem mixWkG:Tryz.prog.follows .mixedOrders=true:=by kernel_rfl
theorem fscWkG {G : List (Nat × Obj)} {o : Ops} [ztF G] [zqV G o] {Γ : CT} {η : HT} {f : FuncId} {fn : Func} {c : SC} (hΓ : ∀ B, GB G B -> CTok Tryz.prog Γ B) (hf : Tryz.prog.funcs[f]? = some fn) (i : (fn.name == "runtime.NumGoroutine") = false := by kernel_rfl) (j : fn.body.isNone = false := by kernel_rfl) (l : Nat.ble c.I.sl.length fn.ntmps = true := by kernel_rfl) (r : Nat.beq fn.results.toList.length c.nr = true := by kernel_rfl) (e : fnS τWkG Γ η fn c.I c.outs = c.p := by kernel_rfl) : SCok Tryz.prog G f c := witO (G := G) (o := o) <| fn_sc mixWkG τ_okWkG hΓ hf (isFn hf i j) l r e
theorem xbX {G : List (Nat × Obj)} {o : Ops} [ztF G] [zqV G o] {Γ : CT} {η : HT} {f : FuncId} {fn : Func} {c : PC} (hΓ : ∀ B, GB G B -> CTok Tryz.prog Γ B) (hf : Tryz.prog.funcs[f]? = some fn) (i : (fn.name == "runtime.NumGoroutine") = false := by kernel_rfl) (j : fn.body.isNone = false := by kernel_rfl) (l : Nat.ble c.ash.length fn.ntmps = true := by kernel_rfl) (r : c.cl = false := by kernel_rfl) (e : fnP τWkG Γ η fn c.ash c.rts = c.p := by kernel_rfl) : PCok Tryz.prog G f c := witO (G := G) (o := o) <| fn_pc mixWkG τ_okWkG hΓ hf (isFn hf i j) l r e
abbrev KWkG0:Type:=Int×Int×Bs×Bs×Bool×(Bs×List Bs)×Bs×Bs×(List Bs)×(List Bs)×Bool×Bool×Bool×Bool
abbrev YWkG0:Ty:=.pr (.i .i64) (.pr (.i .i64) (.pr .s (.pr .s (.pr .b (.pr (.pr .s (.sl .s)) (.pr .s (.pr .s (.pr (.sl .s) (.pr (.sl .s) (.pr .b (.pr .b (.pr .b .b))))))))))))
section
variable {tabs:List (Nat×Obj)}[ztF tabs]{o:Ops}[zqV tabs o]
def zbY(_o:Ops)(v0:List (Bs×Bs))(v1:List (Bs×Bs))(v2:Int):Option (Int⊕(Bool⊕Unit)):=
 bif decide (v2<(v0.length:Int))then((idx v0 v2).bind fun v3=>(idx v1 v2).bind fun v4=>bif(!((v3.1==v4.1)&&(v3.2==v4.2)))then some (.inr (.inl false))else some (.inl (w64 (v2+1))))else some (.inr (.inr ()))
def zdE(o:Ops)(v0:List (Bs×Bs))(v1:List (Bs×Bs)):Option (Bool):=
 bif((v0.length:Int) != (v1.length:Int))then(some false)else((iter (zbY o v0 v1) (0:Int)).bind fun v5=>match v5 with
 |.inl v6=>(some v6)
 |.inr _v7=>(some true))
def zjN(o:Ops):PC:=⟨[(.h (.sl (.pr .s .s))),(.h (.sl (.pr .s .s)))],[.b],fun x=>zdE o x.1 x.2,false⟩
theorem zsI:PCok Tryz.prog tabs 27 (zjN o):=xbX (o:=o) (η:=[(200004,.loop [] ⟨[(5,hI)],[]⟩ [0,1] [(some 1000000,⟨[(4,hB)],[]⟩),(some 0,⟨[],[]⟩)]),
 (4000006,.sch [(.pu,0,[]),(.pu,1,[]),(.pu,2,[]),(.pu,3,[]),(.pu,4,[]),(.pu,5,[]),(.pu,6,[]),(.pu,7,[]),(.pu,8,[])])]) (Γ:=⟨[],[],false,[]⟩) (ctok trivial trivial) Tryz.func27
def zcK(o:Ops)(v0:List Bs)(v1:List Bs)(v2:Int):Option (Int⊕(Bool⊕Unit)):=
 bif decide (v2<(v0.length:Int))then((idx v0 v2).bind fun v3=>(zgH o v1 v3).bind fun v4=>bif(!v4)then some (.inr (.inl false))else some (.inl (w64 (v2+1))))else some (.inr (.inr ()))
def zaV(o:Ops)(v0:List Bs)(v1:List Bs):Option (Bool):=
 (iter (zcK o v0 v1) (0:Int)).bind fun v5=>match v5 with
 |.inl v6=>(some v6)
 |.inr _v7=>(some true)
def zmU(o:Ops):PC:=⟨[(.h (.sl .s)),(.h (.sl .s))],[.b],fun x=>zaV o x.1 x.2,false⟩
theorem zvW:PCok Tryz.prog tabs 35 (zmU o):=xbX (o:=o) (η:=[(200002,.loop [] ⟨[(5,hI)],[]⟩ [0,1] [(some 1000000,⟨[(4,hB)],[]⟩),(some 0,⟨[],[]⟩)])]) (Γ:=⟨[(46,(zpP o))],[],false,[]⟩) (ctok ⟨zxI,trivial⟩ trivial) Tryz.func35
noncomputable def zdU(o:Ops)(v9:KWkG0)(v11:((List (Bs×Bs))×(List (Bs×Bs×Bs×Bool×Int))×(List (Bs×((List Bs)×(List Bs)×List Bs)×Int))×(List (Bs×Bs×List Bs))×(List (Bs×Bs×Bs×(List Bs)×(List Bs)×Bool×Bool×Bool×Bool))×List ((Bs×Bs)×Unit)))(v12:(Int×(List (Bs×Bs×Bs×Bool×Int))×(List (Bs×((List Bs)×(List Bs)×List Bs)×Int))×(List (Bs×Bs×List Bs))×(List (Bs×Bs×Bs×(List Bs)×(List Bs)×Bool×Bool×Bool×Bool))×List ((Bs×Bs)×Unit)))(v13:((List Bs)×(List (Bs×Bs×Bs×Bool×Int))×(List (Bs×((List Bs)×(List Bs)×List Bs)×Int))×(List (Bs×Bs×List Bs))×(List (Bs×Bs×Bs×(List Bs)×(List Bs)×Bool×Bool×Bool×Bool))×List ((Bs×Bs)×Unit))):Option (Bool⊕(Int×Int×Bs×Bs×Bool×Bs×(List Bs)×Bs×Bs×(List Bs)×(List Bs)×Bool×Bool×Bool×Bool×(List (Bs×Bs×Bs×Bool×Int))×(List (Bs×((List Bs)×(List Bs)×List Bs)×Int))×(List (Bs×Bs×List Bs))×(List (Bs×Bs×Bs×(List Bs)×(List Bs)×Bool×Bool×Bool×Bool))×List ((Bs×Bs)×Unit))):=
 bif(v12.1 != 0)then((zbS o v13.2.1 v13.2.2.1 v13.2.2.2.1 v13.2.2.2.2.1 v13.2.2.2.2.2).bind fun v14=>(zdE o v14.1 v11.1).bind fun v15=>bif(!v15)then some (.inl false)else some (.inr (v9.1,v9.2.1,v9.2.2.1,v9.2.2.2.1,v9.2.2.2.2.1,v9.2.2.2.2.2.1.1,v9.2.2.2.2.2.1.2,v9.2.2.2.2.2.2.1,v9.2.2.2.2.2.2.2.1,v9.2.2.2.2.2.2.2.2.1,v9.2.2.2.2.2.2.2.2.2.1,v9.2.2.2.2.2.2.2.2.2.2.1,v9.2.2.2.2.2.2.2.2.2.2.2.1,v9.2.2.2.2.2.2.2.2.2.2.2.2.1,v9.2.2.2.2.2.2.2.2.2.2.2.2.2,v14.2)))else some (.inr (v9.1,v9.2.1,v9.2.2.1,v9.2.2.2.1,v9.2.2.2.2.1,v9.2.2.2.2.2.1.1,v9.2.2.2.2.2.1.2,v9.2.2.2.2.2.2.1,v9.2.2.2.2.2.2.2.1,v9.2.2.2.2.2.2.2.2.1,v9.2.2.2.2.2.2.2.2.2.1,v9.2.2.2.2.2.2.2.2.2.2.1,v9.2.2.2.2.2.2.2.2.2.2.2.1,v9.2.2.2.2.2.2.2.2.2.2.2.2.1,v9.2.2.2.2.2.2.2.2.2.2.2.2.2,v13.2))
noncomputable def zdV(_o:Ops)(v18:Int×Int×Bs×Bs×Bool×Bs×(List Bs)×Bs×Bs×(List Bs)×(List Bs)×Bool×Bool×Bool×Bool×(List (Bs×Bs×Bs×Bool×Int))×(List (Bs×((List Bs)×(List Bs)×List Bs)×Int))×(List (Bs×Bs×List Bs))×(List (Bs×Bs×Bs×(List Bs)×(List Bs)×Bool×Bool×Bool×Bool))×List ((Bs×Bs)×Unit)):Option ((Bool×(List (Bs×Bs×Bs×Bool×Int))×(List (Bs×((List Bs)×(List Bs)×List Bs)×Int))×(List (Bs×Bs×List Bs))×(List (Bs×Bs×Bs×(List Bs)×(List Bs)×Bool×Bool×Bool×Bool))×List ((Bs×Bs)×Unit))):=
 bif(v18.2.1==6)then some ((v18.2.1==6),v18.2.2.2.2.2.2.2.2.2.2.2.2.2.2.2)else(bif(v18.2.1==8)then some ((v18.2.1==8),v18.2.2.2.2.2.2.2.2.2.2.2.2.2.2.2)else(bif(v18.2.1==10)then some ((v18.2.1==10),v18.2.2.2.2.2.2.2.2.2.2.2.2.2.2.2)else(bif(v18.2.1==4)then some ((v18.2.1==4),v18.2.2.2.2.2.2.2.2.2.2.2.2.2.2.2)else some ((v18.2.1==0),v18.2.2.2.2.2.2.2.2.2.2.2.2.2.2.2))))
noncomputable def zbQ(o:Ops)(v0:List KWkG0)(v1:Bs)(v3:Int)(v4:List (Bs×Bs×Bs×Bool×Int))(v5:List (Bs×((List Bs)×(List Bs)×List Bs)×Int))(v6:List (Bs×Bs×List Bs))(v7:List (Bs×Bs×Bs×(List Bs)×(List Bs)×Bool×Bool×Bool×Bool))(v8:List ((Bs×Bs)×Unit)):Option ((Int×(List (Bs×Bs×Bs×Bool×Int))×(List (Bs×((List Bs)×(List Bs)×List Bs)×Int))×(List (Bs×Bs×List Bs))×(List (Bs×Bs×Bs×(List Bs)×(List Bs)×Bool×Bool×Bool×Bool))×List ((Bs×Bs)×Unit))⊕(Bool⊕Unit)):=
 bif decide (v3<(v0.length:Int))then((idx v0 v3).bind fun v9=>(zbF o v1 v4 v5 v6 v7 v8).bind fun v10=>(zbS o v10.2.1 v10.2.2.1 v10.2.2.2.1 v10.2.2.2.2.1 v10.2.2.2.2.2).bind fun v11=>(zfK o v9 v11.2.1 v11.2.2.1 v11.2.2.2.1 v11.2.2.2.2.1 v11.2.2.2.2.2).bind fun v12=>(zbF o v1 v12.2.1 v12.2.2.1 v12.2.2.2.1 v12.2.2.2.2.1 v12.2.2.2.2.2).bind fun v13=>(zdU o v9 v11 v12 v13).bind fun v16=>match v16 with
 |.inl v17=>some (.inr (.inl v17))
 |.inr v18=>((zdV o v18).bind fun v19=>bif v19.1 then((zaV o v10.1 v13.1).bind fun v20=>bif(!v20)then some (.inr (.inl false))else some (.inl (w64 (v3+1),v19.2)))else(bif(v18.2.1==7)then(bif(v18.2.1==7)then((zaV o v13.1 v10.1).bind fun v21=>bif(!v21)then some (.inr (.inl false))else some (.inl (w64 (v3+1),v19.2)))else some (.inl (w64 (v3+1),v19.2)))else(bif(v18.2.1==9)then(bif(v18.2.1==9)then((zaV o v13.1 v10.1).bind fun v22=>bif(!v22)then some (.inr (.inl false))else some (.inl (w64 (v3+1),v19.2)))else some (.inl (w64 (v3+1),v19.2)))else(bif(v18.2.1==11)then(bif(v18.2.1==11)then((zaV o v13.1 v10.1).bind fun v23=>bif(!v23)then some (.inr (.inl false))else some (.inl (w64 (v3+1),v19.2)))else some (.inl (w64 (v3+1),v19.2)))else(bif(v18.2.1==5)then(bif(v18.2.1==5)then((zaV o v13.1 v10.1).bind fun v24=>bif(!v24)then some (.inr (.inl false))else some (.inl (w64 (v3+1),v19.2)))else some (.inl (w64 (v3+1),v19.2)))else(bif(v18.2.1==13)then(bif(v18.2.1==13)then((zaV o v13.1 v10.1).bind fun v25=>bif(!v25)then some (.inr (.inl false))else some (.inl (w64 (v3+1),v19.2)))else some (.inl (w64 (v3+1),v19.2)))else(bif(v18.2.1==3)then((zaV o v13.1 v10.1).bind fun v26=>bif(!v26)then some (.inr (.inl false))else some (.inl (w64 (v3+1),v19.2)))else some (.inl (w64 (v3+1),v19.2))))))))))else some (.inr (.inr ()))
noncomputable def zeJ(o:Ops)(v0:List KWkG0)(v1:Bs):Option (Bool):=
 (ziR o).bind fun v2=>(iter (fun x=>zbQ o v0 v1 x.1 x.2.1 x.2.2.1 x.2.2.2.1 x.2.2.2.2.1 x.2.2.2.2.2) ((0:Int),v2)).bind fun v27=>match v27 with
 |.inl v28=>(some v28)
 |.inr _v29=>((some true).bind fun v30=>some v30)
noncomputable def zqH(o:Ops):PC:=⟨[(.h (.sl YWkG0)),hS],[.b],fun x=>zeJ o x.1 x.2,false⟩
abbrev qaX:OSh:=.mp true .s (.pr .s (.pr .s (.pr (.sl .s) (.pr (.sl .s) (.pr .b (.pr .b (.pr .b .b)))))))
abbrev qaY:OSh:=.mp true .s (.pr (.pr (.sl .s) (.pr (.sl .s) (.sl .s))) (.i .i64))
abbrev qaZ:OSh:=.mp true .s (.pr .s (.pr .s (.pr .b (.i .i64))))
theorem yeG:PCok Tryz.prog tabs 7 (zqH o):=xbX (o:=o) (η:=[(2000013,.join [] [0,1,6,8,11] [(some 1000000,⟨[(4,hB)],[]⟩),(none,⟨[(5,(.ptr 0 0)),(7,(.ptr 1 0))],[.blk 128 [(.mpr 2),(.mpr 3),(.mpr 4),(.mpr 5),(.mpr 6)],.blk 53 [hI,hI,hS,hS,hB,hS,(.h (.sl .s)),hS,hS,(.h (.sl .s)),(.h (.sl .s)),hB,hB,hB,hB],qaZ,qaY,.mp true .s (.pr .s (.sl .s)),qaX,qaW]⟩)]),
 (2300019,.join [] [0,1,6,8,11,46] [(none,⟨[(5,(.ptr 0 0)),(47,hB)],[.blk 128 [(.mpr 1),(.mpr 2),(.mpr 3),(.mpr 4),(.mpr 5)],qaZ,qaY,.mp true .s (.pr .s (.sl .s)),qaX,qaW]⟩)]),
 (200005,.loop [] ⟨[(5,(.ptr 0 0)),(6,hI)],[.blk 128 [(.mpr 1),(.mpr 2),(.mpr 3),(.mpr 4),(.mpr 5)],qaZ,qaY,.mp true .s (.pr .s (.sl .s)),qaX,qaW]⟩ [0,1] [(some 1000000,⟨[(4,hB)],[]⟩),(some 0,⟨[],[]⟩)])]) (Γ:=⟨[(27,(zjN o)),(35,(zmU o)),(24,ysI)],[(30,(zqX o)),(34,(zhL o)),(29,(ziQ o)),(31,(znY o))],false,[]⟩) (ctok ⟨zsI,⟨zvW,⟨xfF,trivial⟩⟩⟩ ⟨zvO,⟨znE,⟨zpB,⟨zwM,trivial⟩⟩⟩⟩) Tryz.func7
end
theorem yqH(l:List L8)(x:L8):x∈Lib.compact l↔x∈l:=by
 have key:∀(m:Nat),m<=l.length->(x∈Lib.compactUpTo l.toArray m↔∃j,j<m/\l.toArray[j]! = x):=by
  intro m
  induction m with
  |zero=>intro _;simp[Lib.compactUpTo]
  |succ m ih=>
   intro hm
   rw[Lib.compactUpTo_succ,List.mem_append,ih (by omega)]
   cases hk:Lib.keeps l.toArray m with
   |true=>
    rw[if_pos rfl,List.mem_singleton]
    constructor
    ·rintro(⟨j,hj,e⟩|e)
     ·exact⟨j,by omega,e⟩
     ·exact⟨m,by omega,e.symm⟩
    ·rintro⟨j,hj,e⟩
     by_cases hjm:j=m
     ·subst hjm;exact .inr e.symm
     ·exact .inl ⟨j,by omega,e⟩
   |false=>
    rw[if_neg (by simp)]
    have h2:0<m/\l.toArray[m]! = l.toArray[m-1]!:=by
     by_cases h0:m=0
     ·subst h0
      rw[Lib.keeps_lt_one _ 0 (by omega)]at hk;cases hk
     ·refine⟨by omega,Classical.byContradiction fun hne=>?_⟩
      rw[Lib.keeps_pos hne]at hk;cases hk
    constructor
    ·rintro(⟨j,hj,e⟩|h)
     ·exact⟨j,by omega,e⟩
     ·cases h
    ·rintro⟨j,hj,e⟩
     by_cases hjm:j=m
     ·subst hjm
      exact .inl ⟨j-1,by omega,by rw[<-h2.2];exact e⟩
     ·exact .inl ⟨j,by omega,e⟩
 show x∈Lib.compactUpTo l.toArray l.length↔_
 rw[key l.length (Nat.le_refl _)]
 constructor
 ·rintro⟨j,hj,rfl⟩
  rw[getElem!_pos l.toArray j (by simpa using hj)]
  simp
 ·intro hx
  obtain⟨j,hj,rfl⟩:=List.getElem_of_mem hx
  refine⟨j,hj,?_⟩
  rw[getElem!_pos l.toArray j (by simpa using hj)]
  simp
def scpE(s:PS)(n:L8):List L8:=(lst 2 (zcD keqS s.2.1 n zG)).flatMap fun r=>(zcD keqS s.2.2.1 r zR).2
noncomputable def zxQ(s:PS)(u:L8):List L8:=Lib.compact (zwL ((inE s.2.1 u).flatMap (scpE s)))
theorem ynB{s:PS}(hG:Ri kltS s.2.1)(hR:Ri kltS s.2.2.1){u x:L8}:x∈zxQ s u↔∃n g k r,InG s.2.1 u n/\(n,g)∈s.2.1/\k∈lst 2 g/\(k,r)∈s.2.2.1/\x∈r.2:=by
 unfold zxQ
 rw[yqH]
 have hs:x∈zwL ((inE s.2.1 u).flatMap (scpE s))↔x∈(inE s.2.1 u).flatMap (scpE s):=(zdR leS _).mem_iff
 rw[hs,List.mem_flatMap]
 constructor
 ·rintro⟨n,hn,hx⟩
  have hn:=ykP.1 hn
  obtain⟨g,hg⟩:=kS.has_iff.1 hn.key
  unfold scpE at hx
  rw[ylU hG hg]at hx
  obtain⟨k,hk,hx⟩:=List.mem_flatMap.1 hx
  rw[zgY]at hx
  cases hr:mget keqS s.2.2.1 k with
  |none=>rw[hr]at hx;cases hx
  |some r=>rw[hr]at hx;exact⟨n,g,k,r,hn,hg,hk,kS.get_some hr,hx⟩
 ·rintro⟨n,g,k,r,hn,hg,hk,hr,hx⟩
  refine⟨n,ykP.2 hn,?_⟩
  unfold scpE
  rw[ylU hG hg]
  refine List.mem_flatMap.2 ⟨k,hk,?_⟩
  rw[zgY,kS.get_mem hR hr]
  exact hx
theorem yrC{s:PS}{g:Gr}(hl:(lst 2 g).length<=64)(hr:∀k,(zcD keqS s.2.2.1 k zR).2.length<=16):∀(f i:Nat) (acc:List L8),f+i=(lst 2 g).length->acc.length+16*f<=1048576->∀n,f<n ->
  zoJ (fun x:Int×UM×GM×RM×CM×MM×List L8=>zeD zaB g x.1 x.2.1 x.2.2.1 x.2.2.2.1 x.2.2.2.2.1 x.2.2.2.2.2.1 x.2.2.2.2.2.2) n ((i:Int),s.1,s.2.1,s.2.2.1,s.2.2.2.1,s.2.2.2.2,acc)=some (s.1,s.2.1,s.2.2.1,s.2.2.2.1,s.2.2.2.2,acc++((lst 2 g).drop i).flatMap fun r=>(zcD keqS s.2.2.1 r zR).2)
 |0,i,acc,hi,_,n+1,_=>by
  have hi:i=(lst 2 g).length:=by omega
  subst hi
  rw[List.drop_length,List.flatMap_nil,List.append_nil]
  refine zcF ?_
  simp only
  unfold zeD
  rw[ziI (by show ¬((lst 2 g).length:Int)<((lst 2 g).length:Int);omega)]
 |f+1,i,acc,hi,ha,n+1,hn=>by
  have hlt:i<(lst 2 g).length:=by omega
  have h16:=hr (lst 2 g)[i]
  have h17:(zcD keqS s.2.2.1 (lst 2 g)[i] (([]:L8),([]:List L8))).2.length<=16:=h16
  rw[List.drop_eq_getElem_cons hlt,List.flatMap_cons,<-List.append_assoc,<-yrC hl hr f (i+1) (acc++(zcD keqS s.2.2.1 (lst 2 g)[i] zR).2) (by omega) (by rw[List.length_append];omega) n (by omega)]
  refine zcG ?_
  simp only
  unfold zeD
  rw[zhQ (by show(i:Int)<((lst 2 g).length:Int);omega),show idx g.1.2.2 (i:Int)=some (lst 2 g)[i]from ziE rfl hlt,zaA]
  simp only
  rw[zkB (by omega),zaA,zsJ (by omega)]
theorem yrV{B:Int}{s:PS}(h:PInv B s)(u:L8):zbF zaB u s.1 s.2.1 s.2.2.1 s.2.2.2.1 s.2.2.2.2=some (zxQ s u,s):=by
 have hr:∀k,(zcD keqS s.2.2.1 k zR).2.length<=16:=fun k=>by
  rw[zgY]
  cases hg:mget keqS s.2.2.1 k with
  |none=>exact Nat.zero_le _
  |some r=>exact yfS (h.ro k r (kS.get_some hg)).2
 have hg:∀n,(lst 2 (zcD keqS s.2.1 n zG)).length<=64:=fun n=>by
  rw[zgY]
  cases hg:mget keqS s.2.1 n with
  |none=>exact Nat.zero_le _
  |some g=>exact h.lst_len (kS.get_some hg) (by decide)
 have hsl:∀n,(scpE s n).length<=1024:=fun n=>by
  have:∀l:List L8,(l.flatMap fun r=>(zcD keqS s.2.2.1 r zR).2).length<=16*l.length:=by
   intro l
   induction l with
   |nil=>exact Nat.zero_le _
   |cons a l ih=>
    have:=hr a
    rw[List.flatMap_cons,List.length_append,List.length_cons];omega
  have h1:=this (lst 2 (zcD keqS s.2.1 n zG))
  have h2:=hg n
  unfold scpE;omega
 have hil:(inE s.2.1 u).length<=32:=by
  unfold inE
  exact Nat.le_trans (List.length_filter_le _ _) (by rw[List.length_map];exact h.gL)
 unfold zbF
 rw[in_ok h,zaA]
 have key:∀(f i:Nat) (acc:List L8),f+i=(inE s.2.1 u).length->acc.length+1024*f<=65536->∀n,f<n ->
   zoJ (fun x:Int×UM×GM×RM×CM×MM×List L8=>zeW zaB (inE s.2.1 u,s) x.1 x.2.1 x.2.2.1 x.2.2.2.1 x.2.2.2.2.1 x.2.2.2.2.2.1 x.2.2.2.2.2.2) n ((i:Int),s.1,s.2.1,s.2.2.1,s.2.2.2.1,s.2.2.2.2,acc)=some (s.1,s.2.1,s.2.2.1,s.2.2.2.1,s.2.2.2.2,acc++((inE s.2.1 u).drop i).flatMap (scpE s)):=by
  intro f
  induction f with
  |zero=>
   intro i acc hi _ n hn
   obtain⟨n,rfl⟩:∃m,n=m+1:=⟨n-1,by omega⟩
   have hi:i=(inE s.2.1 u).length:=by omega
   subst hi
   rw[List.drop_length,List.flatMap_nil,List.append_nil]
   refine zcF ?_
   simp only
   unfold zeW
   simp only
   rw[ziI (by omega)]
  |succ f ih=>
   intro i acc hi ha n hn
   obtain⟨n,rfl⟩:∃m,n=m+1:=⟨n-1,by omega⟩
   have hlt:i<(inE s.2.1 u).length:=by omega
   have h1:=hsl (inE s.2.1 u)[i]
   have h2:=hg (inE s.2.1 u)[i]
   rw[List.drop_eq_getElem_cons hlt,List.flatMap_cons,<-List.append_assoc,<-ih (i+1) (acc++scpE s (inE s.2.1 u)[i]) (by omega) (by rw[List.length_append];omega) n (by omega)]
   refine zcG ?_
   simp only
   unfold zeW
   simp only
   rw[zhQ (by omega),ziE rfl hlt,zaA]
   rw[show iter _ ((0:Int),s.1,s.2.1,s.2.2.1,s.2.2.2.1,s.2.2.2.2,acc)=_ from yrC (s:=s) (g:=zcD keqS s.2.1 (inE s.2.1 u)[i] zG) h2 hr (lst 2 (zcD keqS s.2.1 (inE s.2.1 u)[i] zG)).length 0 acc (by omega) (by omega) FU (by unfold FU;omega),zaA,List.drop_zero,zsJ (by omega)]
   rfl
 rw[show iter _ ((0:Int),s.1,s.2.1,s.2.2.1,s.2.2.2.1,s.2.2.2.2,([]:List L8))=_ from key (inE s.2.1 u).length 0 [] (by omega) (by simp;omega) FU (by unfold FU;omega),zaA,List.drop_zero,List.nil_append]
 have hfl:((inE s.2.1 u).flatMap (scpE s)).length<=1048576:=by
  have:∀l:List L8,(l.flatMap (scpE s)).length<=1024*l.length:=by
   intro l
   induction l with
   |nil=>exact Nat.zero_le _
   |cons a l ih=>
    have:=hsl a
    rw[List.flatMap_cons,List.length_append,List.length_cons];omega
  have:=this (inE s.2.1 u)
  omega
 have e1:ynF ((inE s.2.1 u).flatMap (scpE s))=some (zwL ((inE s.2.1 u).flatMap (scpE s))):=by
  unfold ynF
  rw[decide_eq_true (by omega)];rfl
 have e2:zyU (zwL ((inE s.2.1 u).flatMap (scpE s)))=some (zxQ s u):=by
  unfold zyU
  have:(zwL ((inE s.2.1 u).flatMap (scpE s))).length=((inE s.2.1 u).flatMap (scpE s)).length:=(zdR leS _).length_eq
  rw[decide_eq_true (by omega)];rfl
 simp only
 rw[e1,zaA,e2,zaA]
theorem yyV(l:List (L8×L8))(hl:l.length<=1048576):zdE zaB l l=some true:=by
 have key:∀(f i:Nat),f+i=l.length->∀g,f<g->zoJ (zbY zaB l l) g (i:Int)=some (.inr ()):=by
  intro f
  induction f with
  |zero=>
   intro i hi g hg
   obtain⟨g,rfl⟩:∃m,g=m+1:=⟨g-1,by omega⟩
   have hi:i=l.length:=by omega
   subst hi
   refine zcF ?_
   unfold zbY
   rw[ziI (by omega)]
  |succ f ih=>
   intro i hi g hg
   obtain⟨g,rfl⟩:∃m,g=m+1:=⟨g-1,by omega⟩
   have hlt:i<l.length:=by omega
   refine(zcG ?_).trans (ih (i+1) (by omega) g (by omega))
   unfold zbY
   rw[zhQ (by omega),ziE rfl hlt,zaA,zaA,beq_self_eq_true,beq_self_eq_true,zsJ (by omega)]
   rfl
 unfold zdE
 rw[bne_self_eq_false,cond_false,show iter (zbY zaB l l) (0:Int)=_ from key l.length 0 (by omega) FU (by unfold FU;omega),zaA]
theorem yxG{B:Int}{s:PS}(h:PInv B s):(yuJ s).length<=1048576:=by
 have e:(yuJ s).length=(yhW s).length:=(zdR _ _).length_eq
 rw[e]
 unfold yhW clE grE maE roE usE
 simp only[List.length_append,List.length_map]
 have:=h.uL;have:=h.gL;have:=h.rL;have:=h.cL;have:=h.mL
 omega
theorem does_no{o:Opr}{s:PS}(h:(zqQ o s).1≠0):(zqQ o s).2=s:=by
 let P:Int×PS->Prop:=fun r=>r.1≠0->r.2=s
 have hs:∀k:Int,P (k,s):=fun k _=>rfl
 have hz:∀t:PS,P (0,t):=fun t h=>absurd rfl h
 have hb:∀{c:Bool} {x y:Int×PS},P x->P y->P (bif c then x else y):=fun h k=>zvF (P:=P) h k
 have ht:∀f,P (yhP o.2.2.1 f s):=fun f=>by
  unfold yhP
  refine hb (hs _) ?_
  split
  ·exact hs _
  ·exact hz _
 have hp:∀k,P (yaG k o.2.2.1 o.2.2.2.1 s):=fun k=>by
  unfold yaG
  refine hb (hs _) ?_
  split
  ·exact hs _
  ·refine hb (hs _) (hb (hs _) ?_)
   split
   ·exact hs _
   ·exact hz _
 have hq:∀k,P (zrO k o.2.2.1 o.2.2.2.1 s):=fun k=>by
  unfold zrO
  refine hb (hs _) ?_
  split
  ·exact hs _
  ·exact hb (hs _) (hb (hs _) (hz _))
 have main:P (zqQ o s):=by
  unfold zqQ
  refine hb ?_ (hb ?_ (hb ?_ (hb ?_ (hb ?_ (hb ?_ (hb (hp 0) (hb (hq 0) (hb (hp 1) (hb (hq 1) (hb (hp 2) (hb (hq 2) (hb ?_ (hb ?_ (hb ?_ (hb ?_ (hb ?_ (hb ?_ (hs 0))))))))))))))))))
  ·unfold ynG;exact hb (hs _) (hb (hs _) (hb (hs _) (hz _)))
  ·unfold yvG;exact hb (hs _) (ht _)
  ·exact ht _
  ·unfold ydD;exact hb (hs _) (hb (hs _) (hz _))
  ·unfold ymP;exact hb (hs _) (hb (hs _) (hb (hs _) (hz _)))
  ·unfold ydK;exact hb (hs _) (hb (hs _) (hz _))
  ·unfold yvX;exact hb (hs _) (hb (hs _) (hz _))
  ·unfold ydF;exact hb (hs _) (hb (hs _) (hz _))
  ·unfold yuH;exact hb (hs _) (hb (hs _) (hz _))
  ·unfold yiK;exact hb (hs _) (hb (hs _) (hz _))
  ·unfold yiI;exact hb (hs _) (hb (hs _) (hb (hs _) (hb (hs _) (hz _))))
  ·unfold yvM;exact hb (hs _) (hb (hs _) (hb (hs _) (hz _)))
 exact main h
structure Less (s t:PS):Prop where
 g:∀n g,(n,g)∈s.2.1->∃g',(n,g')∈t.2.1/\∀i,i<3->∀x∈lst i g,x∈lst i g'
 r:∀k r,(k,r)∈s.2.2.1->∃r',(k,r')∈t.2.2.1/\∀x∈r.2,x∈r'.2
theorem Less.refl(s:PS):Less s s:=⟨fun _ g h=>⟨g,h,fun _ _ _ hx=>hx⟩,fun _ r h=>⟨r,h,fun _ hx=>hx⟩⟩
theorem Less.ing{s t:PS}(h:Less s t){u n:L8}(hn:InG s.2.1 u n):InG t.2.1 u n:=by
 induction hn with
 |dir hg hu=>
  obtain⟨g',h1,h2⟩:=h.g _ _ hg
  exact .dir h1 (h2 0 (by decide) _ hu)
 |sub hg hx _ ih=>
  obtain⟨g',h1,h2⟩:=h.g _ _ hg
  exact .sub h1 (h2 1 (by decide) _ hx) ih
theorem Less.holds{B C:Int}{s t:PS}(h:Less s t)(hs:PInv B s)(ht:PInv C t)(u:L8):∀x∈zxQ s u,x∈zxQ t u:=fun x hx=>by
 obtain⟨n,g,k,r,h1,h2,h3,h4,h5⟩:=(ynB hs.gR hs.rR).1 hx
 obtain⟨g',q1,q2⟩:=h.g n g h2
 obtain⟨r',q3,q4⟩:=h.r k r h4
 exact(ynB ht.gR ht.rR).2 ⟨n,g',k,r',h.ing h1,q1,q2 2 (by decide) k h3,q3,q4 x h5⟩
theorem zvB{s:PS}{c:Bool}{x y:Int×PS}(h:Less s x.2)(k:Less s y.2):Less s (bif c then x else y).2:=by cases c<;>assumption
theorem zqW{s:PS}{c:Bool}{x y:Int×PS}(h:Less x.2 s)(k:Less y.2 s):Less (bif c then x else y).2 s:=by cases c<;>assumption
theorem xcF(n m:L8)(s:PS):Less s (ynG n m s).2:=by
 unfold ynG
 exact zvB (.refl s) (zvB (.refl s) (zvB (.refl s) ⟨(Less.refl s).g,(Less.refl s).r⟩))
theorem ywA{B:Int}{s:PS}(h:PInv B s)(n:L8):Less s (ymP n s).2:=by
 unfold ymP
 cases !nmB n with
 |true=>exact .refl s
 |false=>
  cases hh:mhas keqS s.2.1 n with
  |true=>exact .refl s
  |false=>
   rw[cond_false,cond_false]
   refine zvB (.refl s) (Less.mk (fun m g hg=>⟨g,?_,fun _ _ _ hx=>hx⟩) (Less.refl s).r)
   refine(kS.set_mem h.gR).2 (.inr ⟨hg,fun e=>?_⟩)
   have e:m=n:=e
   rw[kS.has_iff.2 ⟨g,by rw[<-e];exact hg⟩]at hh;cases hh
theorem ygG{B:Int}{s:PS}(h:PInv B s){k:Nat}(hk:k<3)(n x:L8):Less s (yaG k n x s).2:=by
 unfold yaG
 refine zvB (.refl s) ?_
 split
 ·exact .refl s
 ·rename_i g hg
  refine zvB (.refl s) (zvB (.refl s) ?_)
  split
  ·exact .refl s
  ·have hm:=kS.get_some hg
   refine⟨fun m g' hg'=>?_,(Less.refl s).r⟩
   by_cases e:m=n
   ·subst e
    have:=kS.get_mem h.gR hg'
    rw[hg]at this
    cases this
    refine⟨_,(kS.set_mem h.gR).2 (.inl rfl),fun i hi y hy=>?_⟩
    rw[ydL hi hk]
    by_cases e:i=k
    ·subst e;rw[if_pos rfl];exact yhA.2 (.inr hy)
    ·rw[if_neg e];exact hy
   ·exact⟨g',(kS.set_mem h.gR).2 (.inr ⟨hg',e⟩),fun _ _ _ hx=>hx⟩
theorem ycF{B:Int}{s:PS}(h:PInv B s){k:Nat}(hk:k<3)(n x:L8):Less (zrO k n x s).2 s:=by
 unfold zrO
 refine zqW (.refl s) ?_
 split
 ·exact .refl s
 ·rename_i g hg
  refine zqW (.refl s) (zqW (.refl s) ?_)
  have hm:=kS.get_some hg
  refine⟨fun m g' hg'=>?_,(Less.refl s).r⟩
  rcases(kS.set_mem h.gR).1 hg' with e|⟨hg',_⟩
  ·cases e
   refine⟨g,hm,fun i hi y hy=>?_⟩
   rw[ydL hi hk]at hy
   by_cases e:i=k
   ·subst e;rw[if_pos rfl]at hy;exact(ycD.1 hy).1
   ·rw[if_neg e]at hy;exact hy
  ·exact⟨g',hg',fun _ _ _ hx=>hx⟩
theorem yaN{k:Nat}(hk:k<3)(n:L8){G G':GM}(hG:G'.Sublist G):∀m g,(m,g)∈zgR k n G'->∃g',(m,g')∈G/\∀i,i<3->∀x∈lst i g,x∈lst i g':=fun m g hg=>by
 obtain⟨g0,h0,rfl⟩:=yiP.1 hg
 refine⟨g0,hG.subset h0,fun i hi x hx=>?_⟩
 rw[ycG hk g0 hi]at hx
 by_cases e:i=k
 ·rw[if_pos e]at hx;exact(ycD.1 hx).1
 ·rw[if_neg e]at hx;exact hx
theorem yuN(n:L8)(s:PS):Less (ydD n s).2 s:=by
 unfold ydD
 exact zqW (.refl s) (zqW (.refl s) ⟨yaN (by decide) n (List.Sublist.refl _),(Less.refl s).r⟩)
theorem yvJ(n:L8)(s:PS):Less (ydK n s).2 s:=by
 unfold ydK
 exact zqW (.refl s) (zqW (.refl s) ⟨yaN (by decide) n (zpX _ _),(Less.refl s).r⟩)
theorem yuC(n:L8)(s:PS):Less (ydF n s).2 s:=by
 unfold ydF
 exact zqW (.refl s) (zqW (.refl s) ⟨yaN (by decide) n (List.Sublist.refl _),fun k r hr=>⟨r,(zpX _ _).subset hr,fun _ hx=>hx⟩⟩)
theorem ysU{a b:List L8}(ha:a.length<=1048576)(hb:b.length<=1048576)(h:∀x∈a,x∈b):zaV zaB a b=some true:=by
 have key:∀(f i:Nat),f+i=a.length->∀g,f<g->zoJ (zcK zaB a b) g (i:Int)=some (.inr ()):=by
  intro f
  induction f with
  |zero=>
   intro i hi g hg
   obtain⟨g,rfl⟩:∃m,g=m+1:=⟨g-1,by omega⟩
   have hi:i=a.length:=by omega
   subst hi
   refine zcF ?_
   unfold zcK
   rw[ziI (by omega)]
  |succ f ih=>
   intro i hi g hg
   obtain⟨g,rfl⟩:∃m,g=m+1:=⟨g-1,by omega⟩
   have hlt:i<a.length:=by omega
   refine(zcG ?_).trans (ih (i+1) (by omega) g (by omega))
   unfold zcK
   rw[zhQ (by omega),ziE rfl hlt,zaA,rhas_ok _ _ hb,zaA,List.contains_iff_mem.2 (h _ (List.getElem_mem hlt)),zsJ (by omega)]
   rfl
 unfold zaV
 rw[show iter (zcK zaB a b) (0:Int)=_ from key a.length 0 (by omega) FU (by unfold FU;omega),zaA]
theorem yoF{B:Int}{s:PS}(h:PInv B s)(u:L8):(zxQ s u).length<=1048576:=by
 have hr:∀k,(zcD keqS s.2.2.1 k zR).2.length<=16:=fun k=>by
  rw[zgY]
  cases hg:mget keqS s.2.2.1 k with
  |none=>exact Nat.zero_le _
  |some r=>exact yfS (h.ro k r (kS.get_some hg)).2
 have hg:∀n,(lst 2 (zcD keqS s.2.1 n zG)).length<=64:=fun n=>by
  rw[zgY]
  cases hg:mget keqS s.2.1 n with
  |none=>exact Nat.zero_le _
  |some g=>exact h.lst_len (kS.get_some hg) (by decide)
 have hsl:∀n,(scpE s n).length<=1024:=fun n=>by
  have:∀l:List L8,(l.flatMap fun r=>(zcD keqS s.2.2.1 r zR).2).length<=16*l.length:=by
   intro l
   induction l with
   |nil=>exact Nat.zero_le _
   |cons a l ih=>
    have:=hr a
    rw[List.flatMap_cons,List.length_append,List.length_cons];omega
  have h1:=this (lst 2 (zcD keqS s.2.1 n zG))
  have h2:=hg n
  unfold scpE;omega
 have hil:(inE s.2.1 u).length<=32:=by
  unfold inE
  exact Nat.le_trans (List.length_filter_le _ _) (by rw[List.length_map];exact h.gL)
 have hfl:∀l:List L8,(l.flatMap (scpE s)).length<=1024*l.length:=by
  intro l
  induction l with
  |nil=>exact Nat.zero_le _
  |cons a l ih=>
   have:=hsl a
   rw[List.flatMap_cons,List.length_append,List.length_cons];omega
 have h1:=hfl (inE s.2.1 u)
 have h2:(zwL ((inE s.2.1 u).flatMap (scpE s))).length=((inE s.2.1 u).flatMap (scpE s)).length:=(zdR leS _).length_eq
 have h3:=Lib.compact_length_le (zwL ((inE s.2.1 u).flatMap (scpE s)))
 unfold zxQ
 omega
theorem grows_b{B:Int}(hB1:1<=B)(hB:B<=1099511627775){s:PS}(h:PInv B s){v:List Opr}(u:L8){i:Nat}(hi:i<v.length)(hi2:i<1048576)(ho:Opok v[i]):
  zbQ zaB v u (i:Int) s.1 s.2.1 s.2.2.1 s.2.2.2.1 s.2.2.2.2=some (.inl (((i+1:Nat):Int),(zqQ v[i] s).2)):=by
 have hd:=does_ok (show B<=1099511627776 by omega) h ho
 have h':=yrL hB1 h v[i]
 unfold zbQ
 rw[zhQ (by omega),ziE rfl hi,zaA,yrV h,zaA]
 simp only
 rw[rows_ok (by omega) h,zaA]
 simp only
 rw[hd,zaA,yrV h',zaA]
 generalize hov:v[i]=o at *
 obtain⟨t,ht⟩:∃t,t=(zqQ o s).2:=⟨_,rfl⟩
 have hj0:zdU zaB o (yuJ s,s) (zqQ o s) (zxQ (zqQ o s).2 u,(zqQ o s).2)=some (.inr (o.1,o.2.1,o.2.2.1,o.2.2.2.1,o.2.2.2.2.1,o.2.2.2.2.2.1.1,o.2.2.2.2.2.1.2,o.2.2.2.2.2.2.1,o.2.2.2.2.2.2.2.1,o.2.2.2.2.2.2.2.2.1,o.2.2.2.2.2.2.2.2.2.1,o.2.2.2.2.2.2.2.2.2.2.1,o.2.2.2.2.2.2.2.2.2.2.2.1,o.2.2.2.2.2.2.2.2.2.2.2.2.1,o.2.2.2.2.2.2.2.2.2.2.2.2.2,(zqQ o s).2)):=by
  unfold zdU
  by_cases hz:(zqQ o s).1=0
  ·rw[show((zqQ o s).1 != (0:Int))=false by rw[hz];rfl,cond_false]
  ·rw[show((zqQ o s).1 != (0:Int))=true by rw[bne_iff_ne];exact hz,cond_true]
   simp only
   rw[does_no hz,rows_ok (by omega) h,zaA]
   simp only
   rw[yyV _ (yxG h),zaA]
   rfl
 rw[hj0,zaA]
 simp only
 have ea:zdV zaB (o.1,o.2.1,o.2.2.1,o.2.2.2.1,o.2.2.2.2.1,o.2.2.2.2.2.1.1,o.2.2.2.2.2.1.2,o.2.2.2.2.2.2.1,o.2.2.2.2.2.2.2.1,o.2.2.2.2.2.2.2.2.1,o.2.2.2.2.2.2.2.2.2.1,o.2.2.2.2.2.2.2.2.2.2.1,o.2.2.2.2.2.2.2.2.2.2.2.1,o.2.2.2.2.2.2.2.2.2.2.2.2.1,o.2.2.2.2.2.2.2.2.2.2.2.2.2,(zqQ o s).2)=some ((o.2.1==6||o.2.1==8||o.2.1==10||o.2.1==4||o.2.1==0),(zqQ o s).2):=by
  unfold zdV
  simp only
  cases h6:o.2.1==6 with
  |true=>rfl
  |false=>
   cases h8:o.2.1==8 with
   |true=>rfl
   |false=>
    cases h10:o.2.1==10 with
    |true=>rfl
    |false=>
     cases h4:o.2.1==4 with
     |true=>rfl
     |false=>rfl
 rw[ea,zaA]
 simp only
 have hlt:=yoF h u
 have hlt':=yoF h' u
 have up:(o.2.1==6||o.2.1==8||o.2.1==10||o.2.1==4||o.2.1==0)=true->Less s (zqQ o s).2:=fun hk=>by
  simp only[Bool.or_eq_true,beq_iff_eq]at hk
  unfold zqQ
  rcases hk with(((hk|hk)|hk)|hk)|hk<;>rw[hk]
  ·exact ygG h (by decide) _ _
  ·exact ygG h (by decide) _ _
  ·exact ygG h (by decide) _ _
  ·exact ywA h _
  ·exact xcF _ _ _
 have down:∀k:Int,o.2.1=k->k=7∨k=9∨k=11∨k=5∨k=13∨k=3->Less (zqQ o s).2 s:=fun k hk hs=>by
  unfold zqQ
  rcases hs with rfl|rfl|rfl|rfl|rfl|rfl<;>rw[hk]
  ·exact ycF h (by decide) _ _
  ·exact ycF h (by decide) _ _
  ·exact ycF h (by decide) _ _
  ·exact yvJ _ _
  ·exact yuC _ _
  ·exact yuN _ _
 rw[zsJ (by omega)]
 cases hk:(o.2.1==6||o.2.1==8||o.2.1==10||o.2.1==4||o.2.1==0) with
 |true=>
  rw[cond_true,ysU hlt hlt' ((up hk).holds h h' u),zaA];rfl
 |false=>
  rw[cond_false]
  have hd2:∀k:Int,o.2.1=k->k=7∨k=9∨k=11∨k=5∨k=13∨k=3->zaV zaB (zxQ (zqQ o s).2 u) (zxQ s u)=some true:=fun k hk hs=>ysU hlt' hlt ((down k hk hs).holds h' h u)
  cases q7:o.2.1==7 with
  |true=>rw[cond_true,cond_true,hd2 7 (beq_iff_eq.1 q7) (by simp),zaA];rfl
  |false=>
   cases q9:o.2.1==9 with
   |true=>rw[cond_false,cond_true,cond_true,hd2 9 (beq_iff_eq.1 q9) (by simp),zaA];rfl
   |false=>
    cases q11:o.2.1==11 with
    |true=>rw[cond_false,cond_false,cond_true,cond_true,hd2 11 (beq_iff_eq.1 q11) (by simp),zaA];rfl
    |false=>
     cases q5:o.2.1==5 with
     |true=>rw[cond_false,cond_false,cond_false,cond_true,cond_true,hd2 5 (beq_iff_eq.1 q5) (by simp),zaA];rfl
     |false=>
      cases q13:o.2.1==13 with
      |true=>rw[cond_false,cond_false,cond_false,cond_false,cond_true,cond_true,hd2 13 (beq_iff_eq.1 q13) (by simp),zaA];rfl
      |false=>
       cases q3:o.2.1==3 with
       |true=>rw[cond_false,cond_false,cond_false,cond_false,cond_false,cond_true,hd2 3 (beq_iff_eq.1 q3) (by simp),zaA];rfl
       |false=>rfl
theorem yvY(v0:List Opr)(v1:L8)(hk:dsz (.sl opT) v0+dsz .s v1<=1048576):zeJ zaB v0 v1=some true:=by
 obtain⟨hv,hl⟩:=ops_of (v:=v0) (k:=1048576) (by omega) (Nat.le_refl _)
 have key:∀(f i:Nat) (C:Int) (t:PS),f+i=v0.length->1<=C->C+f<=1099511627775->PInv C t->∀g,f<g->zoJ (fun x:Int×PS=>zbQ zaB v0 v1 x.1 x.2.1 x.2.2.1 x.2.2.2.1 x.2.2.2.2.1 x.2.2.2.2.2) g ((i:Int),t)=some (.inr ()):=by
  intro f
  induction f with
  |zero=>
   intro i C t hi _ _ _ g hg
   obtain⟨g,rfl⟩:∃m,g=m+1:=⟨g-1,by omega⟩
   have hi:i=v0.length:=by omega
   subst hi
   refine zcF ?_
   simp only
   unfold zbQ
   rw[ziI (by omega)]
  |succ f ih=>
   intro i C t hi hC hf ht g hg
   obtain⟨g,rfl⟩:∃m,g=m+1:=⟨g-1,by omega⟩
   have hlt:i<v0.length:=by omega
   exact(zcG (grows_b hC (by omega) ht v1 hlt (by omega) (hv _ (List.getElem_mem hlt)))).trans (ih (i+1) (C+1) _ (by omega) (by omega) (by omega) (yrL hC ht _) g (by omega))
 unfold zeJ
 rw[new_ok,zaA,show iter _ ((0:Int),s0)=_ from key v0.length 0 1 s0 (by omega) (Int.le_refl _) (by omega) new_inv FU (by unfold FU;omega),zaA]
 rfl
end Go.Proofs.YtopanhneegpgcaaGreatDoor.Am
namespace Go.Proofs.YtopanhneegpgcaaGreatDoor
open Go Go.RowKit
section
open Go Go.RowKit Go.ChangeShapes Go.WideShapes Go.ChangeAt
attribute [local irreducible] Value.okWide
theorem tabs_of{W:World}(h:W.ShapedOpen Tryz.prog)(hL:laidMet Tryz.prog Rows.peopleGrowsUptoRow.laid W):∃G:List (Nat×Obj),Am.ztF G/\Am.GS G (zuK W):=by
 obtain⟨m,hm⟩:=Tryz.laysM219.s1_3 W h
 have hm:W.cell? ⟨0,0,none⟩=some (.int .i64 m):=hm
 have h0:∃c E fz,W.heap[0]? = some (.cells c E fz)/\c[0]? = some (.int .i64 m):=by
  unfold World.cell? at hm
  split at hm
  ·rename_i c E fz hb
   simp only[Option.isSome_none,if_neg (show ¬(false=true) by decide)]at hm
   exact⟨c,E,fz,hb,hm⟩
  ·cases hm
 obtain⟨c,E,fz,h1,h2⟩:=h0
 have hT := Lib.tabIs_of_head (P := Tryz.prog) (k := .u64) (zs := Lib.pow10Tab) (g := 3) (t := 298) (e := 249) (n := 20) (by kernel_rfl) (by kernel_rfl) (by kernel_rfl) (by kernel_rfl) (by kernel_rfl) (by kernel_rfl) (show laidMet Tryz.prog (("internal/strconv.uint64pow10", Lib.tabData .u64 Lib.pow10Tab) :: _) W from hL.tail.tail)
 have h3:∃T f,W.heap[3]? = some (.cells xbS.toArray T f):=by
  unfold Lib.TabIs World.var? at hT
  rw [show Tryz.prog.globalNamed "internal/strconv.uint64pow10" = some 3 by kernel_rfl, Option.bind_some] at hT
  split at hT
  ·rename_i cs T f hb
   cases hT
   exact⟨T,f,hb⟩
  ·cases hT
 obtain⟨T,f,h4⟩:=h3
 refine⟨[(0,.cells c E fz),(3,.cells xbS.toArray T f)],⟨fun S hS=>⟨⟨c,E,fz,m,hS _ (List.mem_cons_self ..),h2⟩,T,f,hS _ (List.mem_cons_of_mem _ (List.mem_cons_self ..))⟩⟩,fun p hp=>?_⟩
 rcases List.mem_cons.1 hp with rfl|hp
 ·exact h1
 ·rcases List.mem_cons.1 hp with rfl|hp
  ·exact h4
  ·cases hp
theorem zzH(H:Type)(enc:TypeId×Value->H)(W:World)(base:Nat)(args:Array Value)(ds gs:List (DataW H))(before:List MemPlace)
  (hval:∀(j:Nat) t v,Tryz.f7.params[j]? = some t->args[j]? = some v->Value.okWide Tryz.prog W .any base t v)
  (hW:DataW.Whole enc Tryz.prog Tryz.f7.params.toList Rows.peopleGrowsSpec.vars false W args.toList ds gs before) (hk:Rows.uptoSmall H (ds++gs)=true) (hsh:W.ShapedOpen Tryz.prog) (hL:laidMet Tryz.prog Rows.peopleGrowsUptoRow.laid W):
  Calls Tryz.prog 7 args W fun e W'=>∃v,e = .returned v/\Rows.peopleGrowsSpec.post enc Tryz.prog Tryz.f7 false true false false W args v W':=by
 have hW':=hW
 obtain⟨p,q,hA0,hV,rfl,_,_⟩:=hW
 have hA:DataW.TrodAll enc Tryz.prog W 0 (fun _=>true) true Tryz.f7.params.toList args.toList ds p:=hA0
 rw[Tryz.params7]at hA hval
 obtain⟨v0,vs0,d0,ds0,p0,q0,hargs,rfl,rfl,t0,r0⟩:=trodAll_cons hA
 obtain⟨v1,vs1,d1,ds1,p1,q1,rfl,rfl,rfl,t1,r1⟩:=trodAll_cons r0
 obtain⟨rfl,rfl,rfl⟩:=trodAll_nil r1
 obtain rfl:args = #[v0,v1]:=by cases args;simp_all
 obtain⟨rfl,rfl⟩:=trodVars_none hV
 obtain⟨x0,e0,b0⟩:=Am.argD_ok (t:=(.sl Am.opT)) (show Am.argOk Tryz.prog 45 (.sl Am.opT)=true by kernel_rfl) (hval 0 45 v0 rfl rfl) t0
 obtain⟨x1,e1,b1⟩:=Am.argD_ok (t:=.s) (show Am.argOk Tryz.prog 9 .s=true by kernel_rfl) (hval 1 9 v1 rfl rfl) t1
 simp only[List.append_nil,Rows.uptoSmall,decide_eq_true_eq,Rows.uptoBulkAll]at hk
 obtain⟨G,hG,hGS⟩:=tabs_of hsh hL
 refine((Am.yeG (tabs:=G) (o:=Am.zaB)).ok (zuK W) W [v0,v1] (x0,x1) true hGS (xaU W) (.cons (Am.rep1_vr e0) (.cons (Am.rep1_vr e1) .nil)) (Am.yvY x0 x1 (by omega))).mono fun e W' ⟨hx,v,he,hr,_⟩=>?_
 have hr:[v]=[Value.bool true]:=hr
 rw[(List.cons.inj hr).1]at he
 subst he
 refine⟨_,rfl,xdK (B:=4) (n:=2) (by kernel_rfl) rfl (by kernel_rfl) (by kernel_rfl) (by kernel_rfl) (by kernel_rfl) (fun ds hds=>?_) hW' hx⟩
 match ds,hds with
 |[x0,x1],_=>exact⟨rfl,rfl,rfl⟩
theorem xcU:ownKnob Tryz.prog.godebug=none:=by kernel_rfl
def yiR:DataW Unit->LV
 |.lit (.int k n)=>[.int k n]
 |.agg l=>go l
 |_=>[]
where go:List (DataW Unit)->LV
 |[]=>[]
 |d::l=>yiR d++go l
def zvN(l:LV):Obj->Obj
 |.cells _ t frozen=>.cells l.toArray t frozen
 |o=>o
noncomputable def yfF(os:Os):World:={ World.holding Tryz.prog os ⟨#[],#[],[]⟩with heap:=(((((((((World.holding Tryz.prog os ⟨#[],#[],[]⟩).heap).modify 6 (zvN (yiR Rows.laid_math_bits_deBruijn32tab))).modify 7 (zvN (yiR Rows.laid_math_bits_deBruijn64tab))).modify 3 (zvN (yiR Rows.laid_internal_strconv_uint64pow10))).modify 5 (zvN (yiR Rows.laid_unicode_utf8_acceptRanges))).modify 2 (zvN [.iface 312 (.pointer (some ⟨(World.holding Tryz.prog os ⟨#[],#[],[]⟩).heap.size+0,0,none⟩))])).modify 1 (zvN [.iface 312 (.pointer (some ⟨(World.holding Tryz.prog os ⟨#[],#[],[]⟩).heap.size+1,0,none⟩))])).modify 4 (zvN (yiR Go.Pinned.utf8First))) ++ #[.cells #[.string ⟨#[118,97,108,117,101,32,111,117,116,32,111,102,32,114,97,110,103,101]⟩] 314,.cells #[.string ⟨#[105,110,118,97,108,105,100,32,115,121,110,116,97,120]⟩] 314] }
theorem zzO(os:Os):laidMet Tryz.prog Rows.peopleGrowsUptoRow.laid ((yfF os).forCall (fun _ _=>0) ⟨#[],#[.slice none 0 0,.string ⟨#[]⟩],[]⟩).memory:=
 laidMet_of_run' 8 (by kernel_rfl) (by kernel_rfl)
theorem ycM(os:Os){H:Type}(enc:TypeId×Value->H):∃places,DataW.whole enc Tryz.prog ((yfF os).forCall (fun _ _=>0) ⟨#[],#[.slice none 0 0,.string ⟨#[]⟩],[]⟩).memory Tryz.f7.params.toList Rows.peopleGrowsSpec.vars false (#[.slice none 0 0,.string ⟨#[]⟩]:Array Value).toList 8=some ([.nil,.lit (.string [])],[],places):=
 ⟨[],by kernel_rfl⟩
set_option maxRecDepth 100000 in
theorem yaU(os:Os)(started:os.Started)(H:Type)(enc:TypeId×Value->H)(F:Stop.Interp):
  ReturnsInHanded {} Tryz.checked os 7 .any ((Rows.OpenSpec.upto Rows.peopleGrowsSpec).preRow enc Tryz.prog Tryz.f7 Rows.peopleGrowsUptoRow.domain false Rows.peopleGrowsUptoRow.laid) (((Rows.OpenSpec.upto Rows.peopleGrowsSpec).at F).post enc Tryz.prog Tryz.f7 false true false false):=by
 obtain⟨places,hx⟩:=ycM os enc
 refine returnsInHanded_of_row (C:=Tryz.checked) (s:=Rows.OpenSpec.upto Rows.peopleGrowsSpec) xcU started (by kernel_rfl) Tryz.func7
  (witness_row_at (enc:=enc) (C:=Tryz.checked) false (yfF os) #[.slice none 0 0,.string ⟨#[]⟩] rfl (by kernel_rfl) (by kernel_rfl) (by kernel_rfl)
   (OpenSpec.preRow_of_cond 8 hx (by kernel_rfl) (fun k hk=>by cases hk;kernel_rfl) (by kernel_rfl) (zzO os))) ?_
 intro W base args ds gs before hval hW _ hcond _ hL hsh _
 exact zzH H enc W base args ds gs before hval hW (hcond _ rfl) hsh hL
set_option maxRecDepth 100000 in
set_option maxHeartbeats 40000000 in
theorem ydA:joinedFacts Tryz.pinned.checked.prog 7 Tryz.f7 (Rows.OpenSpec.upto Rows.peopleGrowsSpec).bare Rows.peopleGrowsUptoRow=true:=by
 simp only[joinedFacts,Bool.and_eq_true]
 repeat' refine And.intro ?_ ?_
 all_goals (as_aux_lemma=>kernel_rfl)
theorem yhC:Rows.PeopleGrowsUptoSaid:=
 OpenClaim.holds_of_cond 7 Tryz.f7 rfl rfl rfl rfl rfl rfl rfl ⟨rfl,rfl,rfl,rfl,rfl⟩ rfl rfl rfl rfl rfl (by kernel_rfl) Tryz.func7 ydA
  (of_decide_eq_true (by kernel_rfl)) (by unfold Func.isWrapper;first|(rw[if_pos (by decide +kernel)];kernel_rfl)|(rw[if_neg (by decide +kernel)];exact⟨rfl,rfl⟩))
  (fun os started H enc _ F=>by rw[OpenClaim.pre_eq_preRow];exact yaU os started H enc F)
theorem ycB (f : FuncId) (fn : Func) (hf : Tryz.pinned.checked.prog.funcNamed "seneschal/seneschallaw12.PeopleGrows" = some f) (hfn : Tryz.pinned.checked.prog.funcs[f]? = some fn) :
  true=Tryz.pinned.checked.prog.looks []/\∀(j:Nat) t,fn.params[j]? = some t->Tryz.pinned.checked.prog.wantsStandIn t=false:=by
 obtain rfl : f = 7 := osi ((show Tryz.prog.funcNamed "seneschal/seneschallaw12.PeopleGrows" = some 7 by kernel_rfl).symm.trans hf) |>.symm
 obtain rfl:fn=Tryz.f7:=(osi (Tryz.func7.symm.trans hfn)).symm
 refine⟨by kernel_rfl,fun j t ht=>?_⟩
 rw[Tryz.params7]at ht
 have hm:t∈[45,9]:=by simpa using Array.mem_of_getElem? ht
 have hall:([45,9].all fun u=>!Tryz.prog.wantsStandIn u)=true:=by kernel_rfl
 exact(show Tryz.prog.wantsStandIn t=false by simpa using List.all_eq_true.1 hall t hm)
theorem peopleGrows_said : Rows.PeopleGrowsUptoCardSaid :=
 Claim7.holds_tied_plain_at .later [] _ _ _ _ yhC (fun _ h=>by cases h) (by as_aux_lemma=>kernel_rfl) (fun _ h=>by cases h) peopleGrowsUpto_row_tie rfl ⟨rfl,rfl⟩ (by as_aux_lemma=>kernel_rfl) rfl ycB (by as_aux_lemma=>kernel_rfl)
end
end Go.Proofs.YtopanhneegpgcaaGreatDoor
