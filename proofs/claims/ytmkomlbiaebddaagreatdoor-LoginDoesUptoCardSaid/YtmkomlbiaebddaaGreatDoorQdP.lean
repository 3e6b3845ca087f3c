/- The law 'seneschallaw15.LoginDoes' holds of every input whose arguments hold together at most 1048576 values and letters, and its card. Conditions: the row's listed tables hold what the program's text lays; the arguments' bulk is at most 1048576. -/
import Derived.Stop.LaidErr
import Derived.Test.YtmkomlbiaebddaaGreatDoorQdO
namespace Go.Proofs.YtmkomlbiaebddaaGreatDoor.Am
open Go Go.RowKit
section
attribute [local irreducible] stF macF codeF
theorem xdP{n:Nat}(h:n<256):i8 ((n:Nat):Int)=UInt8.ofNat n:=by rw[yoU,Nat.mod_eq_of_lt h]
theorem ywC{m:Nat}(h:¬m<10):Lib.decDigits m=Lib.decDigits (m/10)++[UInt8.ofNat (48+m%10)]:=by rw[zuA,if_neg h]
theorem ylX(u:Nat)(hu:u<9223372036854775808):zaX zaD (u:Int)=some (Lib.decDigits u):=by
 unfold zaX
 have h19:=zvX 19 u (by decide) (by omega)
 have hI:T (iter (fun x=>zhP zaD x.1 x.2) ((u:Int),([]:Bs))) fun r=>∃d:Nat,d<10∧r.1=(d:Int)∧UInt8.ofNat (48+d)::r.2=Lib.decDigits u:=by
  refine T.iter (fun x=>∃m:Nat,x.1=(m:Int)∧m<9223372036854775808∧Lib.decDigits m++x.2=Lib.decDigits u) (fun x=>(Lib.decDigits x.1.toNat).length) _ (fun x hx=>?_) ⟨u,rfl,hu,by simp⟩ (by simp only[Int.toNat_natCast];omega)
  obtain⟨v,s⟩:=x
  obtain⟨m,e,hm,hd⟩:=hx
  simp only at e hd
  subst e
  unfold zhP
  by_cases h9:(m:Int)>9
  ·have hmod:w64 ((48:Int)+Int.tmod (m:Int) 10)=((48+m%10:Nat):Int):=by
    have:Int.tmod (m:Int) 10=((m%10:Nat):Int):=by rw[Int.tmod_eq_emod_of_nonneg (by omega)];omega
    rw[this,zaS (by omega) (by omega)];omega
   have hdiv:w64 (Int.tdiv (m:Int) 10)=((m/10:Nat):Int):=by
    have:Int.tdiv (m:Int) 10=((m/10:Nat):Int):=by rw[Int.tdiv_eq_ediv_of_nonneg (by omega)];omega
    rw[this,zaS (by omega) (by omega)]
   have hsl:s.length≤19:=by
    have:=congrArg List.length hd
    rw[List.length_append]at this;omega
   have hst:=ywC (m:=m) (by omega)
   rw[zaY h9,decide_eq_true (show(0:Int)<10 by decide),zeO rfl,zaA,hmod,hdiv,zbA (by simp;omega),zaA,show((10:Int) != 0)=true from rfl,zeO rfl,zaA,xdP (by omega)]
   refine T.ok ⟨⟨m/10,rfl,by omega,?_⟩,?_⟩
   ·simp only[]
    rw[hst,List.append_assoc]at hd
    exact hd
   ·simp only[Int.toNat_natCast]
    rw[hst,List.length_append];simp
  ·rw[zaZ h9]
   refine T.ok ⟨m,by omega,rfl,?_⟩
   rw[zuA,if_pos (by omega)]at hd
   exact hd
 obtain⟨r,h1,d,h2,h3,h4⟩:=hI
 rw[h1,zaA,h3,zaS (by omega) (by omega),show(48:Int)+(d:Int)=((48+d:Nat):Int) by omega,xdP (by omega)]
 have:r.2.length≤19:=by
  have:=congrArg List.length h4
  rw[List.length_cons]at this;omega
 rw[zbA (by simp;omega),zaA]
 exact congrArg some h4
theorem yzN(l:List L8)(hl:(ziT l).length≤1048576)(hn:l.length≤1048576):zeW zaD l=some (ziT l):=by
 unfold zeW
 have hI:iter (fun x=>zeH zaD l x.1 x.2) ((0:Int),([]:Bs))=some (ziT l):=by
  refine zaM (fun k=>((k:Int),ziT (l.take k))) l.length (by omega) _ (fun k hk=>?_) ?_
  ·have hsp:ziT l=ziT (l.take k)++(Lib.decDigits l[k].length++58::(l[k]++ziT (l.drop (k+1)))):=by
    conv=>lhs;rw[←List.take_append_drop k l,ztV]
    rw[List.drop_eq_getElem_cons hk];rfl
   have hlen:=congrArg List.length hsp
   simp only[List.length_append,List.length_cons]at hlen
   unfold zeH
   rw[zaY (show(k:Int)<(l.length:Int) by omega),zbO rfl hk,zaA,zaA,ylX _ (by omega),zaA,zbA (by simp;omega),zaA,zbA (by simp;omega),zaA,zbA (by simp;omega),zaA,zuR (by omega),List.take_succ_eq_append_getElem hk,ztV]
   simp only[ziT,List.append_assoc,List.append_nil,List.cons_append,List.nil_append]
  ·unfold zeH
   rw[zaZ (by omega),List.take_length]
 rw[hI,zaA]
theorem place_o(n:Int){m:Nat}(h0:0<m)(hm:m≤1073741824):T (zeL zaD n (m:Int)) fun r=>0≤r∧r<(m:Int):=by
 unfold zeL
 rw[decide_eq_true (show(0:Int)<(m:Int) by omega),zeO rfl,zaA]
 have h1:=Int.tmod_lt_of_pos n (show(0:Int)<(m:Int) by omega)
 have h2:=Int.lt_tmod_of_pos n (show(0:Int)<(m:Int) by omega)
 refine T.dif (fun h3=>T.ok ?_) fun h3=>T.ok ⟨by omega,h1⟩
 rw[zaS (by omega) (by omega)]
 omega
theorem yoI{α:Type}{l:List α}{k:Nat}(x:α)(h:k<l.length):setL l (k:Int) x=some (l.set k x):=by
 unfold setL
 rw[decide_eq_true (show(0:Int)≤(k:Int) by omega),decide_eq_true (show(k:Int)<(l.length:Int) by omega)]
 simp
theorem zoI{α:Type}{l:List α}{k:Nat}{x:α}(h:k<l.length)(e:x=l[k]):setL l (k:Int) x=some l:=by
 rw[yoI x h,e,List.set_getElem_self]
theorem ck{α:Type}{k m:Nat}(h:k<m){f:Unit→Option α}:(chk (decide ((0:Int)≤(k:Int))&&decide ((k:Int)<(m:Int)))).bind f=f ():=by
 rw[decide_eq_true (show(0:Int)≤(k:Int) by omega),decide_eq_true (show(k:Int)<(m:Int) by omega),Bool.and_self,zeO rfl,zaA]
theorem yoA{n:Int}(h:0≤n∧n≤2199023255552):zaX zaD n=some (Lib.decDigits n.toNat):=by
 have h2:=ylX n.toNat (by omega)
 rw[show((n.toNat:Nat):Int)=n by omega]at h2
 exact h2
theorem yzC{es:List (L8×CrT)}(h:VEs es):zcS zaD (dl es)=some (dl es,(dl es).map rowC):=by
 have hl:=h.len
 have hd:=znV es
 have hi:iter (fun x=>zcK zaD x.1 x.2.1 x.2.2) ((0:Int),dl es,([]:List (L8×L8)))=some (dl es,(dl es).map rowC):=by
  refine zaM (fun k=>((k:Int),dl es,((dl es).take k).map rowC)) es.length (by omega) _ (fun k hk=>?_) ?_
  ·have hv:=h.each es[k] (List.getElem_mem hk)
   have hkm:k<(dl es).length:=by omega
   have hc:(dl es)[k]=es[k].2:=yvV hk
   have ht:((dl es).take (k+1)).map rowC=((dl es).take k).map rowC++[rowC es[k].2]:=by
    rw[List.take_succ_eq_append_getElem hkm,List.map_append,hc];rfl
   have hrl:(((dl es).take k).map rowC).length≤64:=by rw[List.length_map,List.length_take];omega
   generalize es[k].1=u at hv
   generalize es[k].2=c at hv hc ht
   generalize ((dl es).take k).map rowC=rs at ht hrl
   unfold zcK
   simp only[]
   rw[zaY (by omega),zbO rfl hkm,zaA,hc,yoA hv.step,zaA,yoA ⟨hv.fails.1,by have:=hv.fails.2;omega⟩,zaA,yoA hv.till,zaA,ylX _ (by have:=hv.keys;omega),zaA]
   have hin:iter (fun x=>zbQ zaD x.1 x.2.1 x.2.2.1 x.2.2.2.1 x.2.2.2.2.1 x.2.2.2.2.2.1 x.2.2.2.2.2.2.1 x.2.2.2.2.2.2.2.1 x.2.2.2.2.2.2.2.2.1 x.2.2.2.2.2.2.2.2.2.1 x.2.2.2.2.2.2.2.2.2.2.1 x.2.2.2.2.2.2.2.2.2.2.2) (((0:Nat):Int),dl es,rs,c.1,c.2.1,c.2.2.1,c.2.2.2.1,c.2.2.2.2.1,c.2.2.2.2.2.1,c.2.2.2.2.2.2.1,c.2.2.2.2.2.2.2,zyS c++(c.2.2.2.2.2.2.2.take 0).flatMap zuS)=some (dl es,rs,c.1,c.2.1,c.2.2.1,c.2.2.2.1,c.2.2.2.2.1,c.2.2.2.2.2.1,c.2.2.2.2.2.2.1,c.2.2.2.2.2.2.2,zsX c):=by
    refine zaM (fun j=>((j:Int),dl es,rs,c.1,c.2.1,c.2.2.1,c.2.2.2.1,c.2.2.2.2.1,c.2.2.2.2.2.1,c.2.2.2.2.2.2.1,c.2.2.2.2.2.2.2,zyS c++(c.2.2.2.2.2.2.2.take j).flatMap zuS)) c.2.2.2.2.2.2.2.length (by have:=hv.keys;omega) _ (fun j hj=>?_) ?_
    ·have hm:=hv.may _ (List.getElem_mem hj)
     have hk4:=hv.keys
     unfold zbQ
     simp only[]
     rw[zaY (by omega),zbO rfl hj,zaA,zaA,zaA,zaA,yoA ⟨hm.2.2.2.1,by omega⟩,zaA,zbA (by rw[List.length_append,zzS,List.length_take];simp[zyS];omega),zaA,zaS (by omega) (by omega),List.take_succ_eq_append_getElem hj,List.flatMap_append,List.append_assoc]
     simp[zuS]
    ·unfold zbQ
     simp only[]
     rw[zaZ (by omega),List.take_length];rfl
   rw[List.take_zero,List.flatMap_nil,List.append_nil]at hin
   have hin:iter (fun x=>zbQ zaD x.1 x.2.1 x.2.2.1 x.2.2.2.1 x.2.2.2.2.1 x.2.2.2.2.2.1 x.2.2.2.2.2.2.1 x.2.2.2.2.2.2.2.1 x.2.2.2.2.2.2.2.2.1 x.2.2.2.2.2.2.2.2.2.1 x.2.2.2.2.2.2.2.2.2.2.1 x.2.2.2.2.2.2.2.2.2.2.2) ((0:Int),dl es,rs,c.1,c.2.1,c.2.2.1,c.2.2.2.1,c.2.2.2.2.1,c.2.2.2.2.2.1,c.2.2.2.2.2.2.1,c.2.2.2.2.2.2.2,([c.2.1,c.2.2.1,c.2.2.2.1,Lib.decDigits c.2.2.2.2.1.toNat,Lib.decDigits c.2.2.2.2.2.1.toNat,Lib.decDigits c.2.2.2.2.2.2.1.toNat,Lib.decDigits c.2.2.2.2.2.2.2.length]:List L8))=_:=hin
   rw[hin,zaA]
   simp only[]
   have hf:=ybL hv
   rw[zbA (by have:=hv.nlen;rw[hv.user];simp only[List.length_cons,List.length_nil];omega),zaA,yzN _ (by omega) (by rw[zxP];have:=hv.keys;omega),zaA,zbA (by simp only[List.length_cons,List.length_nil];omega),zaA,zaS (by omega) (by omega),ht]
   rfl
  ·unfold zcK
   simp only[]
   rw[zaZ (by omega),List.take_of_length_le (by omega)]
 unfold zcS
 rw[hi,zaA]
theorem zvH{r:Option (Int×List (L8×CrT))}{q:Option (Int×List CrT)}(h:Bo r q):∃es',(Option.bind r fun v=>Option.bind q fun w=>some ((v.1==w.1),w.2,v.2))=some (true,dl es',es')∧VEs es':=by
 obtain⟨e,es',rfl,rfl,h⟩:=h
 exact⟨es',by simp,h⟩
theorem does_ok{es:List (L8×CrT)}(h:VEs es){op:ygK}(hu:op.2.2.2.1.length≤1048576)(ha:op.2.2.2.2.2.1.length≤1048576):∃es',zeN zaD op (dl es) es=some (true,dl es',es')∧VEs es':=by
 unfold zeN
 cases op.2.1==(0:Int) with
 |true=>exact zvH (set_bo h hu)
 |false=>
  cases op.2.1==(1:Int) with
  |true=>exact zvH (drop_bo h)
  |false=>
   cases op.2.1==(2:Int) with
   |true=>exact zvH (yyZ h)
   |false=>
    cases op.2.1==(3:Int) with
    |true=>exact zvH (xcC h)
    |false=>
     cases op.2.1==(4:Int) with
     |true=>
      obtain⟨r,h1,h2⟩:=lcode_t op ha
      simp only[cond_true,cond_false]
      rw[h1,zaA]
      exact zvH (code_bo h (by omega))
     |false=>
      cases op.2.1==(5:Int) with
      |true=>exact zvH (ywF h)
      |false=>
       cases op.2.1==(6:Int) with
       |true=>
        obtain⟨q,b,h1,h2⟩:=key_bo h (u:=op.2.2.2.1) (id:=op.2.2.2.2.2.2.1)
        simp only[cond_true,cond_false]
        rw[h1,zaA,h2,zaA]
        simp only[beq_self_eq_true,Bool.true_and,decide_true,cond_true]
        exact zvH (yyY h)
       |false=>exact⟨es,rfl,h⟩
abbrev FS:Type:=List (List (L8×CrT))
def dd(l:FS):List (List CrT):=l.map dl
theorem ydR(l:FS):(dd l).length=l.length:=List.length_map ..
theorem yrI{l:FS}{k:Nat}(hk:k<(dd l).length):(dd l)[k]=dl (l[k]'(by rw[←ydR];exact hk)):=List.getElem_map ..
theorem xaU{l:FS}{j:Nat}(hj:j<l.length)(hl:l.length≤1048577)(hok:∀p∈l,VEs p)(o:yqU):
  T (zeF zaD l (dd l) o (j:Int)) fun r=>∃l':FS,r=(l',dd l',o)∧(∀p∈l',VEs p)∧l.length≤l'.length∧l'.length≤l.length+1:=by
 unfold zeF
 have hj2:j<(dd l).length:=by rw[ydR];exact hj
 refine T.bif (fun _=>?_) fun _=>T.ok ⟨l,rfl,hok,Nat.le_refl _,by omega⟩
 rw[ck hj,ck hj,zbO rfl hj,zaA,show zjO zaD l[j]=some (l[j],l[j])from rfl,zaA,zoI hj rfl,zaA,zbA (by rw[List.length_singleton];omega),zaA]
 rw[ck hj2,ck hj2,zbO rfl hj2,zaA,show zeB zaD (dd l)[j]=some ((dd l)[j],(dd l)[j])from rfl,zaA,zoI hj2 rfl,zaA,zbA (by rw[List.length_singleton,ydR];omega),zaA]
 refine T.ok ⟨l++[l[j]],?_,fun p hp=>?_,by simp,by simp⟩
 ·rw[yrI]
  unfold dd
  rw[List.map_append]
  rfl
 ·rcases List.mem_append.1 hp with hp|hp
  ·exact hok p hp
  ·rw[List.mem_singleton.1 hp];exact hok _ (List.getElem_mem hj)
theorem over_t(l:FS)(d:List (List CrT))(a b c e:L8)(x y z:Int)(ks:List KeyT)(hk:ks.length≤4):iter (fun x=>zeA zaD x.1 x.2.1 x.2.2.1 x.2.2.2.1 x.2.2.2.2.1 x.2.2.2.2.2.1 x.2.2.2.2.2.2.1 x.2.2.2.2.2.2.2.1 x.2.2.2.2.2.2.2.2.1 x.2.2.2.2.2.2.2.2.2.1 x.2.2.2.2.2.2.2.2.2.2) ((0:Int),l,d,a,b,c,e,x,y,z,ks)=some (l,d):=by
 refine T.eq (T.iter (fun s=>0≤s.1∧s.1≤4∧s.2.1=l∧s.2.2.1=d∧s.2.2.2.2.2.2.2.2.2.2.length≤4) (fun s=>4-s.1.toNat) _ (fun s hs=>?_) ⟨by simp,by simp,rfl,rfl,hk⟩ (by simp))
 obtain⟨i,s1,s2,s3,s4,s5,s6,s7,s8,s9,s10⟩:=s
 obtain⟨h1,h2,h3,h4,h5⟩:=hs
 simp only at h1 h2 h3 h4 h5
 subst h3
 subst h4
 obtain⟨j,rfl⟩:∃j:Nat,i=j:=⟨i.toNat,by omega⟩
 unfold zeA
 simp only[]
 refine T.dif (fun hlt=>?_) fun _=>T.ok rfl
 have hj:j<s10.length:=by omega
 rw[ck hj,yoI _ hj,zaA]
 refine T.ok ⟨⟨?_,?_,rfl,rfl,?_⟩,?_⟩
 ·simp only[];rw[zuR (by omega)];omega
 ·simp only[];rw[zuR (by omega)];omega
 ·simp only[List.length_set];exact h5
 ·simp only[];rw[zuR (by omega)];omega
theorem ydV{es:List (L8×CrT)}(h:VEs es)(u:L8):(zeU keqS es u zC).2.2.2.2.2.2.2.length≤4:=by
 rcases zyQ h u with hm|⟨c,hm,hg,hv⟩
 ·have:zeU keqS es u zC=zC:=by
   unfold zeU
   cases hq:mget keqS es u with
   |none=>rfl
   |some v=>rw[zkK.2 ⟨v,ztJ hq⟩]at hm;cases hm
  rw[this];exact Nat.zero_le _
 ·rw[hg];exact hv.keys
theorem pget_e{es:List (L8×CrT)}(h:VEs es)(u:L8):ziB zaD u es=some ((zeU keqS es u zC).1,(zeU keqS es u zC).2.1,(zeU keqS es u zC).2.2.1,(zeU keqS es u zC).2.2.2.1,(zeU keqS es u zC).2.2.2.2.1,(zeU keqS es u zC).2.2.2.2.2.1,(zeU keqS es u zC).2.2.2.2.2.2.1,mhas keqS es u,es,(zeU keqS es u zC).2.2.2.2.2.2.2):=by
 have hk:(zeU keqS es u (([],[],[],[],0,0,0,[]):CrT)).2.2.2.2.2.2.2.length≤4:=ydV h u
 unfold ziB zlC
 simp only[]
 rw[ztX _ (by omega),zaA,zaA,zaA]
theorem ylW(script:List yqU)(hl:script.length≤1048576)(ho:∀o∈script,OpOk o):zcV zaD script=some true:=by
 unfold zcV
 refine T.eq ?_
 rw[show znS zaD=some []from rfl,zaA]
 refine T.bind (Q:=fun r=>∃l:FS,r = .inr (l,dd l)∧(∀p∈l,VEs p)∧l.length≤1048577) (T.iter (fun x=>0≤x.1∧x.1≤(script.length:Int)∧x.2.2=dd x.2.1∧(∀p∈x.2.1,VEs p)∧0<x.2.1.length∧(x.2.1.length:Int)≤x.1+1) (fun x=>script.length-x.1.toNat) _ (fun x hx=>?_) ⟨Int.le_refl _,by simp,rfl,fun p hp=>?_,by simp,by simp⟩ (by simp;omega)) fun r hr=>?_
 ·obtain⟨i,l,d⟩:=x
  obtain⟨h8,h9,e,hok,hpos,hle⟩:=hx
  simp only at h8 h9 e hok hpos hle
  subst e
  obtain⟨k,rfl⟩:∃k:Nat,i=k:=⟨i.toNat,by omega⟩
  unfold zhR
  simp only[]
  refine T.dif (fun h2=>?_) fun h2=>T.ok ⟨l,rfl,hok,by omega⟩
  have hk:k<script.length:=by omega
  rw[zbO rfl hk,zaA]
  refine(place_o _ hpos (by omega)).bind fun r hr=>?_
  obtain⟨j,rfl⟩:∃j:Nat,r=j:=⟨r.toNat,by omega⟩
  have hj:j<l.length:=by omega
  refine(xaU hj (by omega) hok _).bind fun r hr2=>?_
  obtain⟨l',rfl,hok',h3,h4⟩:=hr2
  have hj1:j<l'.length:=by omega
  have hj2:j<(dd l').length:=by rw[ydR];exact hj1
  simp only[]
  rw[ck hj1,ck hj1,ck hj2,ck hj2,zbO rfl hj1,zaA,zbO rfl hj2,zaA,yrI]
  have hoj:=hok' _ (List.getElem_mem hj1)
  have hop:=ho _ (List.getElem_mem hk)
  obtain⟨es',hdo,hes'⟩:=does_ok hoj hop.1 hop.2
  rw[hdo,zaA,yoI _ hj2,zaA,yoI _ hj1,zaA]
  simp only[]
  have hS:(dd l').set j (dl es')=dd (l'.set j es'):=by unfold dd;rw[List.map_set]
  rw[hS]
  have hok2:∀p∈l'.set j es',VEs p:=fun p hp=>by
   rcases List.mem_or_eq_of_mem_set hp with hp|rfl
   ·exact hok' p hp
   ·exact hes'
  have hlen2:(l'.set j es').length=l'.length:=List.length_set
  generalize l'.set j es'=L at hok2 hlen2 ⊢
  have hL1:j<L.length:=by omega
  have hL2:j<(dd L).length:=by rw[ydR];exact hL1
  have hvj:=hok2 _ (List.getElem_mem hL1)
  rw[ck hL1,ck hL1,zbO rfl hL1,zaA,pget_e hvj,zaA]
  simp only[]
  rw[zoI hL1 rfl,zaA,ck hL2,ck hL2,zbO rfl hL2,zaA,yrI,zyW hvj,zaA]
  simp only[]
  rw[zoI hL2 (by rw[yrI]),zaA]
  have hkeys:=ydV hvj script[k].2.2.2.1
  generalize zeU keqS L[j] script[k].2.2.2.1 zC=c at hkeys ⊢
  have hj1':zdZ zaD (true,dl es',es') (c.1,c.2.1,c.2.2.1,c.2.2.2.1,c.2.2.2.2.1,c.2.2.2.2.2.1,c.2.2.2.2.2.2.1,mhas keqS L[j] script[k].2.2.2.1,L[j],c.2.2.2.2.2.2.2) L (c,mhas keqS L[j] script[k].2.2.2.1,dl L[j]) (dd L)=some (.inr (L,dd L,c.1,c.2.1,c.2.2.1,c.2.2.2.1,c.2.2.2.2.1,c.2.2.2.2.2.1,c.2.2.2.2.2.2.1,c.2.2.2.2.2.2.2)):=by
   unfold zdZ
   simp only[Bool.not_true,cond_false,bne_self_eq_false]
   rw[show zcG zaD (c.1,c.2.1,c.2.2.1,c.2.2.2.1,c.2.2.2.2.1,c.2.2.2.2.2.1,c.2.2.2.2.2.2.1,c.2.2.2.2.2.2.2) c=some true from yuI hkeys,zaA]
   rfl
  rw[hj1',zaA]
  simp only[]
  rw[over_t L (dd L) c.1 c.2.1 c.2.2.1 c.2.2.2.1 c.2.2.2.2.1 c.2.2.2.2.2.1 c.2.2.2.2.2.2.1 c.2.2.2.2.2.2.2 hkeys,zaA]
  refine T.ok ⟨⟨?_,?_,rfl,hok2,?_,?_⟩,?_⟩
  ·simp only[];rw[zuR (by omega)];omega
  ·simp only[];rw[zuR (by omega)];omega
  ·simp only[];omega
  ·simp only[];rw[zuR (by omega)];omega
  ·simp only[];rw[zuR (by omega)];omega
 ·rw[List.mem_singleton.1 hp];exact⟨.nil,Nat.zero_le _,fun p hp=>by cases hp⟩
 ·obtain⟨l,rfl,hok,hlen⟩:=hr
  simp only[]
  refine T.bind (Q:=fun r=>r = .inr ()) (T.iter (fun x=>0≤x.1∧x.1≤(l.length:Int)∧x.2=(l,dd l)) (fun x=>l.length-x.1.toNat) _ (fun x hx=>?_) ⟨Int.le_refl _,by simp,rfl⟩ (by simp;omega)) fun r hr=>by subst hr;exact T.ok rfl
  obtain⟨i,v⟩:=x
  obtain⟨h8,h9,e⟩:=hx
  simp only at h8 h9 e
  subst e
  obtain⟨k,rfl⟩:∃k:Nat,i=k:=⟨i.toNat,by omega⟩
  unfold ziA
  simp only[]
  refine T.dif (fun h2=>?_) fun h2=>T.ok rfl
  have hk:k<l.length:=by omega
  have hk2:k<(dd l).length:=by rw[ydR];exact hk
  have hoj:=hok _ (List.getElem_mem hk)
  have hll:=hoj.len
  rw[ck hk,ck hk,ck hk2,ck hk2,zbO rfl hk2,zaA,zbO rfl hk,zaA,xcS hoj,zaA]
  simp only[]
  rw[zoI hk rfl,zaA,yrI,show l[k].map (·.2)=dl l[k]from rfl,yyJ (by rw[znV];omega) (fun c hc=>by
   obtain⟨p,hp,rfl⟩:=List.mem_map.1 hc
   exact(hoj.each p hp).keys),zaA]
  simp only[Bool.not_true,cond_false]
  rw[ck hk,ck hk,ck hk2,ck hk2,zbO rfl hk,zaA,rows_ok hoj,zaA]
  simp only[]
  rw[zoI hk rfl,zaA,zaA,yzC hoj,zaA]
  simp only[]
  rw[zoI hk2 (by rw[yrI]),zaA,show zbY zaD ((l[k].map fun x=>x.2).map rowC) ((dl l[k]).map rowC)=some true from yrE _ (yzM hoj),zaA]
  simp only[Bool.not_true,cond_false]
  refine T.ok ⟨⟨?_,?_,rfl⟩,?_⟩
  ·simp only[];rw[zuR (by omega)];omega
  ·simp only[];rw[zuR (by omega)];omega
  ·simp only[];rw[zuR (by omega)];omega
theorem yyR(script:List ygK)(hk:dsz (.sl (.pr (.i .i64) (.pr (.i .i64) (.pr (.i .i64) (.pr .s (.pr .s (.pr .s (.pr .s (.pr .s (.pr .s (.i .i64))))))))))) script≤1048576):zcV zaD script=some true:=by
 have hk:dsz (.sl ymH) script≤1048576:=hk
 have h1:script.length+1≤dsz (.sl ymH) script:=yvY (e:=ymH) rfl script
 exact ylW script (by omega) fun op ho=>opOk_of (by have:=xcV (e:=ymH) ho;omega)
end
end Go.Proofs.YtmkomlbiaebddaaGreatDoor.Am
namespace Go.Proofs.YtmkomlbiaebddaaGreatDoor
open Go Go.RowKit
section
open Go Go.RowKit Go.ChangeShapes Go.WideShapes Go.ChangeAt
attribute [local irreducible] Value.okWide
theorem tabs_of{W:World}(h:W.ShapedOpen Tryz.prog)(hL:laidMet Tryz.prog Rows.loginDoesUptoRow.laid W):∃G:List (Nat×Obj),Am.zlD G∧Am.GS G (zoL W):=by
 obtain⟨m,hm⟩:=Tryz.laysM219.s1_3 W h
 have hm:W.cell? ⟨0,0,none⟩=some (.int .i64 m):=hm
 have h0:∃c E fz,W.heap[0]? = some (.cells c E fz)∧c[0]? = some (.int .i64 m):=by
  unfold World.cell? at hm
  split at hm
  ·rename_i c E fz hb
   simp only[Option.isSome_none,if_neg (show ¬(false=true) by decide)]at hm
   exact⟨c,E,fz,hb,hm⟩
  ·cases hm
 obtain⟨c,E,fz,h1,h2⟩:=h0
 have hT := Lib.tabIs_of_head (P := Tryz.prog) (k := .u64) (zs := Lib.pow10Tab) (g := 1) (t := 214) (e := 102) (n := 20) (by kernel_rfl) (by kernel_rfl) (by kernel_rfl) (by kernel_rfl) (by kernel_rfl) (by kernel_rfl) (show laidMet Tryz.prog (("internal/strconv.uint64pow10", Lib.tabData .u64 Lib.pow10Tab) :: _) W from hL.tail.tail)
 have h3:∃T f,W.heap[1]? = some (.cells yyK.toArray T f):=by
  unfold Lib.TabIs World.var? at hT
  rw [show Tryz.prog.globalNamed "internal/strconv.uint64pow10" = some 1 by kernel_rfl, Option.bind_some] at hT
  split at hT
  ·rename_i cs T f hb
   cases hT
   exact⟨T,f,hb⟩
  ·cases hT
 obtain⟨T,f,h4⟩:=h3
 refine⟨[(0,.cells c E fz),(1,.cells yyK.toArray T f)],⟨fun S hS=>⟨⟨c,E,fz,m,hS _ (List.mem_cons_self ..),h2⟩,T,f,hS _ (List.mem_cons_of_mem _ (List.mem_cons_self ..))⟩⟩,fun p hp=>?_⟩
 rcases List.mem_cons.1 hp with rfl|hp
 ·exact h1
 ·rcases List.mem_cons.1 hp with rfl|hp
  ·exact h4
  ·cases hp
theorem zwS(H:Type)(enc:TypeId×Value→H)(W:World)(base:Nat)(args:Array Value)(ds gs:List (DataW H))(before:List MemPlace)
  (hval:∀(j:Nat) t v,Tryz.f8.params[j]? = some t→args[j]? = some v→Value.okWide Tryz.prog W .any base t v)
  (hW:DataW.Whole enc Tryz.prog Tryz.f8.params.toList Rows.loginDoesSpec.vars false W args.toList ds gs before) (hk:Rows.uptoSmall H (ds++gs)=true) (hsh:W.ShapedOpen Tryz.prog) (hL:laidMet Tryz.prog Rows.loginDoesUptoRow.laid W):
  Calls Tryz.prog 8 args W fun e W'=>∃v,e = .returned v∧Rows.loginDoesSpec.post enc Tryz.prog Tryz.f8 false true false false W args v W':=by
 have hW':=hW
 obtain⟨p,q,hA0,hV,rfl,_,_⟩:=hW
 have hA:DataW.TrodAll enc Tryz.prog W 0 (fun _=>true) true Tryz.f8.params.toList args.toList ds p:=hA0
 rw[Tryz.params8]at hA hval
 obtain⟨v0,vs0,d0,ds0,p0,q0,hargs,rfl,rfl,t0,r0⟩:=trodAll_cons hA
 obtain⟨rfl,rfl,rfl⟩:=trodAll_nil r0
 obtain rfl:args = #[v0]:=by cases args;simp_all
 obtain⟨rfl,rfl⟩:=trodVars_none hV
 obtain⟨x0,e0,b0⟩:=Am.argD_ok (t:=(.sl (.pr (.i .i64) (.pr (.i .i64) (.pr (.i .i64) (.pr .s (.pr .s (.pr .s (.pr .s (.pr .s (.pr .s (.i .i64)))))))))))) (show Am.argOk Tryz.prog 63 (.sl (.pr (.i .i64) (.pr (.i .i64) (.pr (.i .i64) (.pr .s (.pr .s (.pr .s (.pr .s (.pr .s (.pr .s (.i .i64)))))))))))=true by kernel_rfl) (hval 0 63 v0 rfl rfl) t0
 simp only[List.append_nil,Rows.uptoSmall,decide_eq_true_eq,Rows.uptoBulkAll]at hk
 obtain⟨G,hG,hGS⟩:=tabs_of hsh hL
 refine((Am.ybB (tabs:=G) (o:=Am.zaD)).ok (zoL W) W [v0] (x0) true hGS (yeY W) (.cons (Am.rep1_vr e0) .nil) (Am.yyR x0 (by omega))).mono fun e W' ⟨hx,v,he,hr,_⟩=>?_
 have hr:[v]=[Value.bool true]:=hr
 rw[(List.cons.inj hr).1]at he
 subst he
 refine⟨_,rfl,yyV (B:=4) (n:=1) (by kernel_rfl) rfl (by kernel_rfl) (by kernel_rfl) (by kernel_rfl) (by kernel_rfl) (fun ds hds=>?_) hW' hx⟩
 match ds,hds with
 |[x0],_=>exact⟨rfl,rfl,rfl⟩
theorem xaS:ownKnob Tryz.prog.godebug=none:=by kernel_rfl
def yeQ:DataW Unit→LV
 |.lit (.int k n)=>[.int k n]
 |.agg l=>go l
 |_=>[]
where go:List (DataW Unit)→LV
 |[]=>[]
 |d::l=>yeQ d++go l
def zqY(l:LV):Obj→Obj
 |.cells _ t frozen=>.cells l.toArray t frozen
 |o=>o
noncomputable def ybH(os:Os):World:={ World.holding Tryz.prog os ⟨#[],#[],[]⟩with heap:=(((((((((World.holding Tryz.prog os ⟨#[],#[],[]⟩).heap).modify 6 (zqY (yeQ Rows.laid_math_bits_deBruijn32tab))).modify 7 (zqY (yeQ Rows.laid_math_bits_deBruijn64tab))).modify 1 (zqY (yeQ Rows.laid_internal_strconv_uint64pow10))).modify 5 (zqY (yeQ Rows.laid_unicode_utf8_acceptRanges))).modify 3 (zqY [.iface 233 (.pointer (some ⟨(World.holding Tryz.prog os ⟨#[],#[],[]⟩).heap.size+0,0,none⟩))])).modify 2 (zqY [.iface 233 (.pointer (some ⟨(World.holding Tryz.prog os ⟨#[],#[],[]⟩).heap.size+1,0,none⟩))])).modify 4 (zqY (yeQ Go.Pinned.utf8First))) ++ #[.cells #[.string ⟨#[118,97,108,117,101,32,111,117,116,32,111,102,32,114,97,110,103,101]⟩] 235,.cells #[.string ⟨#[105,110,118,97,108,105,100,32,115,121,110,116,97,120]⟩] 235] }
theorem zxH(os:Os):laidMet Tryz.prog Rows.loginDoesUptoRow.laid ((ybH os).forCall (fun _ _=>0) ⟨#[],#[.slice none 0 0],[]⟩).memory:=
 laidMet_of_run' 8 (by kernel_rfl) (by kernel_rfl)
theorem yaY(os:Os){H:Type}(enc:TypeId×Value→H):∃places,DataW.whole enc Tryz.prog ((ybH os).forCall (fun _ _=>0) ⟨#[],#[.slice none 0 0],[]⟩).memory Tryz.f8.params.toList Rows.loginDoesSpec.vars false (#[.slice none 0 0]:Array Value).toList 8=some ([.nil],[],places):=
 ⟨[],by kernel_rfl⟩
set_option maxRecDepth 100000 in
theorem zzJ(os:Os)(started:os.Started)(H:Type)(enc:TypeId×Value→H)(F:Stop.Interp):
  ReturnsInHanded {} Tryz.checked os 8 .any ((Rows.OpenSpec.upto Rows.loginDoesSpec).preRow enc Tryz.prog Tryz.f8 Rows.loginDoesUptoRow.domain false Rows.loginDoesUptoRow.laid) (((Rows.OpenSpec.upto Rows.loginDoesSpec).at F).post enc Tryz.prog Tryz.f8 false true false false):=by
 obtain⟨places,hx⟩:=yaY os enc
 refine returnsInHanded_of_row (C:=Tryz.checked) (s:=Rows.OpenSpec.upto Rows.loginDoesSpec) xaS started (by kernel_rfl) Tryz.func8
  (witness_row_at (enc:=enc) (C:=Tryz.checked) false (ybH os) #[.slice none 0 0] rfl (by kernel_rfl) (by kernel_rfl) (by kernel_rfl)
   (OpenSpec.preRow_of_cond 8 hx (by kernel_rfl) (fun k hk=>by cases hk;kernel_rfl) (by kernel_rfl) (zxH os))) ?_
 intro W base args ds gs before hval hW _ hcond _ hL hsh _
 exact zwS H enc W base args ds gs before hval hW (hcond _ rfl) hsh hL
theorem yfY:Rows.LoginDoesUptoSaid:=
 OpenClaim.holds_of_cond 8 Tryz.f8 rfl rfl rfl rfl rfl rfl rfl ⟨rfl,rfl,rfl,rfl,rfl⟩ rfl rfl rfl rfl rfl (by kernel_rfl) Tryz.func8 (by kernel_rfl)
  (of_decide_eq_true (by kernel_rfl)) (by unfold Func.isWrapper;first|(rw[if_pos (by decide +kernel)];kernel_rfl)|(rw[if_neg (by decide +kernel)];exact⟨rfl,rfl⟩))
  (fun os started H enc _ F=>by rw[OpenClaim.pre_eq_preRow];exact zzJ os started H enc F)
theorem ycH (f : FuncId) (fn : Func) (hf : Tryz.pinned.checked.prog.funcNamed "seneschal/seneschallaw15.LoginDoes" = some f) (hfn : Tryz.pinned.checked.prog.funcs[f]? = some fn) :
  true=Tryz.pinned.checked.prog.looks []∧∀(j:Nat) t,fn.params[j]? = some t→Tryz.pinned.checked.prog.wantsStandIn t=false:=by
 obtain rfl : f = 8 := osi ((show Tryz.prog.funcNamed "seneschal/seneschallaw15.LoginDoes" = some 8 by kernel_rfl).symm.trans hf) |>.symm
 obtain rfl:fn=Tryz.f8:=(osi (Tryz.func8.symm.trans hfn)).symm
 refine⟨by kernel_rfl,fun j t ht=>?_⟩
 rw[Tryz.params8]at ht
 have hm:t∈[63]:=by simpa using Array.mem_of_getElem? ht
 have hall:([63].all fun u=>!Tryz.prog.wantsStandIn u)=true:=by kernel_rfl
 exact(show Tryz.prog.wantsStandIn t=false by simpa using List.all_eq_true.1 hall t hm)
theorem loginDoes_said : Rows.LoginDoesUptoCardSaid :=
 Claim7.holds_tied_plain_at .later [] _ _ _ _ yfY (fun _ h=>by cases h) (by kernel_rfl) (fun _ h=>by cases h) loginDoesUpto_row_tie rfl ⟨rfl,rfl⟩ (by kernel_rfl) rfl ycH (by kernel_rfl)
end
end Go.Proofs.YtmkomlbiaebddaaGreatDoor
