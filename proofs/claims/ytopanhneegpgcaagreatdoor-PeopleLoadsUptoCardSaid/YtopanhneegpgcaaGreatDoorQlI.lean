/- Parts of one proof. Conditions: as each theorem says. -/
import Derived.Shelf.Strings.SlTrimAscii
import Derived.KernelRfl
import Derived.Test.YtopanhneegpgcaaGreatDoorRows
import Derived.Lib.Builder
import Derived.Lib.UnsafeStr
import Derived.LaidEql
import Derived.Laws.Externs
import Derived.Sort.KeysCollected
import Derived.Sort.Walk0
import Derived.Sort.Row
import Derived.Sort.Grow
import Derived.Shelf.Spec.SlicesInsert
import Derived.Shelf.Spec.SlicesInsertGrow
import Derived.Test.YtopanhneegpgcaaGreatDoorQlH
open Array renaming ext'->dP,getElem?_append_left->gB,getElem?_eq_some_iff->aP,getElem?_modify->fU,size_append->iH
open Bool renaming and_eq_true->aF,and_self->gN,or_eq_true->bY
open Int renaming toNat_natCast->bT
open List renaming all_eq_true->aY,append_assoc->aU,append_nil->bK,concat_eq_append->iX,cons_append->bG,dropWhile_cons->fI,eq_nil_of_length_eq_zero->aS,ext_getElem?->bS,getElem?_append_left->aH,getElem?_append_right->aJ,getElem?_drop->bR,getElem?_eq_getElem->aO,getElem?_eq_some_iff->aD,isPrefixOf->gV,le_trans->iI,length_append->aC,length_cons->aN,length_drop->bH,length_map->aE,length_replicate->iY,length_set->eK,length_take->bA,map_append->cT,map_cons->bF,mem_append->bD,mem_cons->aK,mem_cons_of_mem->aL,mem_cons_self->aM,mem_reverse->gO,mem_singleton->aT,nil_append->bL,pairwise_cons->aW,pairwise_singleton->bZ,replicate->bP
open Nat renaming add_assoc->dB,blt->cV,eq_zero_or_pos->eY,le_of_ble_eq_true->bJ,le_refl->aI,le_trans->bC,mul_one->dM,pow_succ->jL,strongRecOn->fN,zero_add->aV,zero_le->aZ
open Option renaming bind->aQ
open Go.Proofs.Tryz renaming prog->aA
namespace Go.Proofs.YtopanhneegpgcaaGreatDoor
open Go Go.RowKit
def decF:Nat->Nat->Bs
 |0,_=>[]|f+1,u=>bif cV u 10 then [UInt8.ofNat (48+u)]else decF f (u/10)++[UInt8.ofNat (48+u%10)]
theorem ynH:∀(f u:Nat),u<10^f->0<f->decF f u=Lib.decDigits u
 |0,_,_,h=>absurd h (Nat.lt_irrefl 0)|f+1,u,h,_=>by
  rw[Lib.decDigits];unfold decF;by_cases hu:u<10
  ·rw[show cV u 10=true by rw[zpD];simpa using hu,dif_pos hu];rfl
  ·rw[show cV u 10=false by rw[zpD];simpa using hu,dif_neg hu];have hf:0<f:=by
    rcases eY f with rfl|hf
    ·rw[aV,Nat.pow_one]at h;omega
    ·exact hf
   rw[ynH f (u/10) (by rw[jL]at h;omega) hf];rfl
def itoaF(n:Int):Bs:=bif decide (n<0)then 45::decF 20 n.natAbs else decF 20 n.toNat
def yrD(n:Int):Option Bs:=bif decide (-9223372036854775808<=n)&&decide (n<=9223372036854775807)then some (itoaF n)else none
theorem itoaF_eq{n:Int}(h0:-9223372036854775808<=n)(h1:n<=9223372036854775807):itoaF n=Lib.itoa n:=by
 unfold itoaF Lib.itoa;by_cases hn:n<0
 ·rw[zI hn,zA hn,zE,ynH _ _ (by omega) (by omega)]
 ·rw[zH hn,zB hn,zF,ynH _ _ (by omega) (by omega)]
theorem GV.tab {S : Mem} {w : World} (h : GV S) (hS : Sub S w) : Lib.TabIs aA w "internal/strconv.uint64pow10" .u64 Lib.pow10Tab := by
 obtain⟨t,fz,h⟩:=h.tb;have hg : Tryz.prog.globalNamed "internal/strconv.uint64pow10" = some 3 := by kernel_rfl
 unfold Lib.TabIs World.var?;rw[hg,Option.bind_some,hS _ _ h];rfl
theorem Itoa_c{S:Mem}{w:World}(hS:Sub S w)(hG:GV S){x0:Int}{r:Bs}(hF:yrD x0=some r):Calls aA 68 #[.int .i64 x0] w fun e w'=>e = .returned (str r)/\Ext w w':=by unfold yrD at hF;obtain⟨h,hF⟩:=Am.zaG hF;simp only[aF,zD]at h;cases hF;refine(Tryz.strconv_Itoa x0 h.1 h.2 w (hG.tab hS)).mono ?_;rintro _ w' ⟨rfl,k,os,rfl⟩;rw[itoaF_eq h.1 h.2];exact⟨rfl,⟨rfl,rfl,rfl,by show w.heap.size<=(w.heap++os).size;rw[iH];omega,fun j hj=>by show(w.heap++os)[j]? = _;rw[gB hj]⟩⟩
def ycE(s cs:Bs):Option Bs:=bif decide (s.length<=9223372036854775807)&&decide (cs.length<4294967281)&&cs.all (fun b=>decide (b.toNat<128))then some (Lib.trimS s cs)else none
theorem Trim_c{S:Mem}{w:World}(_:Sub S w){x0 x1 r:Bs}(hF:ycE x0 x1=some r):Calls aA 164 #[str x0,str x1] w fun e w'=>e = .returned (str r)/\Ext w w':=by
 unfold ycE at hF;obtain⟨h,hF⟩:=Am.zaG hF;simp only[aF,zD]at h;cases hF
 exact Any.strings_Trim_laid Tryz.lays160 (by kernel_rfl) ⟨x0.toArray⟩ ⟨x1.toArray⟩ w (by rw[zmG];exact h.1.1) (by rw[zmG];exact h.1.2) (fun j b hj=>by
  have:=aY.1 h.2 b (List.mem_of_getElem? hj)
  simpa using this)
def cutP(s sep:Bs):Option (Bs×Bs×Bool):=bif decide (s.length<4294967281)then some (Lib.cut s sep)else none
theorem Cut_c{S:Mem}{w:World}(hS:Sub S w)(hG:GV S){x0 x1:Bs}{r:Bs×Bs×Bool}(hF:cutP x0 x1=some r):Calls aA 59 #[str x0,str x1] w fun e w'=>e = .returned (.tuple #[str (r.1),str (r.2.1),.bool (r.2.2)])/\Ext w w':=by unfold cutP at hF;obtain⟨h,hF⟩:=Am.zaG hF;simp only[zD]at h;cases hF;obtain⟨m,hm⟩:=hG.cell hS;refine(Tryz.strings_Cut ⟨x0.toArray⟩ ⟨x1.toArray⟩ m w (by rw[zmG];exact h) hm).mono ?_;rintro _ w' ⟨rfl,n,rfl⟩;exact⟨rfl,rfl,rfl,rfl,aI _,fun _ _=>rfl⟩
def yxU(s:Bs):Option (Int×Bool):=bif decide (s.length<=9223372036854775806)then(match Lib.atoiAll s with
 |.ok v=>some (v,false)|_=>none)else none
theorem Atoi_c{S:Mem}{w:World}(_:Sub S w){x0:Bs}{r:Int×Bool}(hF:yxU x0=some r):
  r.2=false/\Calls aA 165 #[str x0] w fun e w'=>e = .returned (.tuple #[.int .i64 r.1,.nilIface])/\Ext w w':=by
 unfold yxU at hF;obtain⟨h,hF⟩:=Am.zaG hF;simp only[zD]at h;split at hF
 ·rename_i v hv;cases hF;refine⟨rfl,(Tryz.strconv_Atoi_ok ⟨x0.toArray⟩ (by rw[zmG];exact h) v hv w).mono ?_⟩;rintro _ w' ⟨rfl,rfl|⟨t,rfl⟩⟩
  ·exact⟨rfl,Ext.refl _⟩
  ·exact⟨rfl,⟨rfl,rfl,rfl,by rw[Lib.bytesWorld_size];omega,fun j hj=>Lib.bytesWorld_at_old w _ _ j hj⟩⟩
 ·cases hF
section
variable {α β γ σ:Type}
theorem zuI(p:UInt8->Bool)(h:(List.range 256).all (fun n=>p (UInt8.ofNat n))=true)(b:UInt8):p b=true:=by have:=aY.1 h b.toNat (by have:=b.toNat_lt;simp only[List.mem_range];omega);simpa using this
theorem zaA(x:α)(f:α->Option β):(some x).bind f=f x:=rfl
theorem bind_ok{o:Option α}{a:α}{f:α->Option β}(h:o=some a):o.bind f=f a:=by rw[h];rfl
theorem zuG{x:Int}(h:-9223372036854775808<=x)(h2:x<=9223372036854775807):w64 x=x:=wr64 h (by omega)
theorem zbD{l:List α}{i:Nat}{j:Int}(hj:j=(i:Int))(h:i<l.length):idx l j=some l[i]:=by subst hj;rw[idx_nat];exact aO h
theorem chk_ok{c:Bool}(h:c=true):chk c=some ():=by subst h;rfl
theorem zaX{p:Prop}[Decidable p]{a b:α}(h:p):(bif decide p then a else b)=a:=by simp[h]
theorem zaY{p:Prop}[Decidable p]{a b:α}(h:¬p):(bif decide p then a else b)=b:=by simp[h]
theorem ymZ{body:σ->Option (σ⊕β)}(st:Nat->σ)(n:Nat)(hn:n<1099511627776)(b:β)(h:∀k,k<n->body (st k)=some (.inl (st (k+1))))(he:body (st n)=some (.inr b)):iter body (st 0)=some b:=by
 have key:∀j k,k<=n->n-k<j->ziC body j (st k)=some b:=by
  intro j;induction j with
  |zero=>intro k _ h;omega|succ j ih=>
   intro k hk hj;by_cases e:k=n
   ·subst e;exact zaW he
   ·rw[zaV (h k (by omega))];exact ih (k+1) (by omega) (by omega)
 exact key FU 0 (by omega) (by unfold FU;omega)
end
theorem ztA(u:Nat):Lib.decDigits u=if u<10 then [UInt8.ofNat (48+u)]else Lib.decDigits (u/10)++[UInt8.ofNat (48+u%10)]:=by
 rw[Lib.decDigits];by_cases h:u<10
 ·rw[dif_pos h,zI h]
 ·rw[dif_neg h,zH h]
theorem ypP{d:Nat}(h:d<10):(UInt8.ofNat (48+d)).toNat=48+d:=by simp[UInt8.toNat_ofNat];omega
theorem ygG:∀(u:Nat),∀b∈Lib.decDigits u,48<=b.toNat/\b.toNat<=57:=by
 intro u;induction u using fN with
 |_ u ih=>
  intro b hb;rw[ztA]at hb;by_cases h:u<10
  ·rw[zI h]at hb;simp only[aT]at hb;rw[hb,ypP h];omega
  ·rw[zH h]at hb;rcases bD.1 hb with hb|hb
   ·exact ih (u/10) (by omega) b hb
   ·simp only[aT]at hb;rw[hb,ypP (by omega)];omega
theorem ytA(u:Nat):Lib.decDigits u≠[]:=by rw[ztA];by_cases h:u<10<;>simp[h]
theorem yoT:∀(u:Nat),u≠0->∃b l,Lib.decDigits u=b::l/\b≠48:=by
 intro u;induction u using fN with
 |_ u ih=>
  intro hu;rw[ztA];by_cases h:u<10
  ·rw[zI h];refine⟨_,_,rfl,fun e=>?_⟩;have:=congrArg UInt8.toNat e;rw[ypP h]at this;have:48+u=48:=this;omega
  ·rw[zH h];obtain⟨b,l,h1,h2⟩:=ih (u/10) (by omega) (by omega);exact⟨b,l++_,by rw[h1];rfl,h2⟩
theorem zwP:∀(k u:Nat),0<k->u<10^k->(Lib.decDigits u).length<=k
 |0,_,h,_=>absurd h (Nat.lt_irrefl 0)|k+1,u,_,h=>by
  rw[ztA];by_cases hu:u<10
  ·rw[zI hu];simp
  ·rw[zH hu];have hk:0<k:=by
    rcases eY k with rfl|hk
    ·rw[aV,Nat.pow_one]at h;omega
    ·exact hk
   have:=zwP k (u/10) hk (by rw[jL]at h;omega);simp;omega
theorem ykD{b:UInt8}(hb:48<=b.toNat/\b.toNat<=57):∀(l:Bs) (acc v:Nat),Lib.parseUint10 acc l = .ok v->v<1844674407370955161->Lib.parseUint10 acc (l++[b]) = .ok (v*10+(b.toNat-48))
 |[],acc,v,h,hv=>by simp only[Lib.parseUint10]at h;cases h;simp only[bL,Lib.parseUint10];rw[zI hb,zH (by omega),zH (by omega)]
 |c::l,acc,v,h,hv=>by
  simp only[bG,Lib.parseUint10]at h ⊢;split at h
  ·rename_i h1;split at h
   ·cases h
   ·rename_i h2;split at h
    ·cases h
    ·rename_i h3;rw[zI h1,zH h2,zH h3];exact ykD hb l _ v h hv
  ·cases h
theorem yhW:∀(u:Nat),u<9223372036854775808->Lib.parseUint10 0 (Lib.decDigits u) = .ok u:=by
 intro u;induction u using fN with
 |_ u ih=>
  intro hu;rw[ztA];by_cases h:u<10
  ·rw[zI h];have e:=ypP h;simp only[Lib.parseUint10];rw[zI (by rw[e];omega),zH (by omega),zH (by rw[e];omega),e];congr 1;omega
  ·rw[zH h];have e:=ypP (show u%10<10 by omega);rw[ykD (by rw[e];omega) _ _ _ (ih (u/10) (by omega) (by omega)) (by omega),e];congr 1;omega
theorem atoi_dec(u:Nat)(hu:u<9223372036854775808):Lib.atoiAll (Lib.decDigits u) = .ok (u:Int):=by
 have hne:=ytA u;cases hl:Lib.decDigits u with
 |nil=>exact absurd hl hne|cons c r=>have hc:=ygG u c (by rw[hl];exact aM);have hp:=yhW u hu;rw[hl]at hp;unfold Lib.atoiAll;simp only;rw[zH (by omega)];unfold Lib.parseMag;rw[zH (by simp),hp];simp only;rw[zH (by omega),zH (by omega),zH (by omega)]
theorem yyY(u:Nat)(hu:u<1000000000000000):yxU (Lib.decDigits u)=some ((u:Int),false):=by have hl:=zwP 15 u (by decide) hu;unfold yxU;rw[zA (show(Lib.decDigits u).length<=9223372036854775806 by omega),atoi_dec u (by omega)];rfl
theorem yoR(u:Nat)(hu:u<9223372036854775808):yrD (u:Int)=some (Lib.decDigits u):=by unfold yrD itoaF;rw[zA (show(-9223372036854775808:Int)<=(u:Int) by omega),zA (show(u:Int)<=9223372036854775807 by omega)];simp only[gN,zE];rw[zB (show ¬(u:Int)<0 by omega)];simp only[zF,bT];rw[ynH 20 u (by omega) (by decide)]
abbrev tenL:Bs:=[48,49,50,51,52,53,54,55,56,57]
theorem ten_has{b:UInt8}(h:48<=b.toNat/\b.toNat<=57):tenL.contains b=true:=by
 have e:b=UInt8.ofNat b.toNat:=by simp
 rw[e];rcases(by omega:b.toNat=48∨b.toNat=49∨b.toNat=50∨b.toNat=51∨b.toNat=52∨b.toNat=53∨b.toNat=54∨b.toNat=55∨b.toNat=56∨b.toNat=57)with h|h|h|h|h|h|h|h|h|h<;>rw[h]<;>decide
theorem yiD{p:UInt8->Bool}:∀{l:Bs},(∀b∈l,p b=true)->l.dropWhile p=[]
 |[],_=>rfl|b::l,h=>by rw[fI,zI (h b aM)];exact yiD fun b hb=>h b (aL _ hb)
theorem trim_all{l:Bs}(h:∀b∈l,48<=b.toNat/\b.toNat<=57):Lib.trimS l tenL=[]:=by have h2:l.reverse.dropWhile (tenL.contains ·)=[]:=yiD fun b hb=>ten_has (h b (gO.1 hb));unfold Lib.trimS Lib.trimRightS;rw[h2];rfl
theorem yzI(u:Nat)(hu:u<1000000000000000):ycE (Lib.decDigits u) tenL=some []:=by have hl:=zwP 15 u (by decide) hu;unfold ycE;rw[zA (show(Lib.decDigits u).length<=9223372036854775807 by omega),zA (show tenL.length<4294967281 by decide),show tenL.all (fun b=>decide (b.toNat<128))=true by decide];simp only[gN,zE];rw[trim_all (ygG u)]
theorem yaU(b:UInt8)(l sub:Bs):Lib.index (b::l) sub=if sub.isPrefixOf (b::l)=true then 0 else(if Lib.index l sub = -1 then -1 else Lib.index l sub+1):=by rw[Lib.index];split<;>simp_all
theorem ykS{m:UInt8}{r:Bs}:∀{d:Bs},m∉d->Lib.index (d++m::r) [m]=(d.length:Int)
 |[],_=>by rw[bL,yaU,zI (by simp[gV])];rfl
 |b::d,h=>by have hb:b≠m:=fun e=>h (by rw[e];exact aM);have ih:=ykS (r:=r) (d:=d) fun hm=>h (aL _ hm);rw[bG,yaU,zH (by simp[gV];exact fun e=>hb e.symm),ih,zH (by omega)];simp
theorem ymO{m:UInt8}{d r:Bs}(h:m∉d):Lib.cut (d++m::r) [m]=(d,r,true):=by unfold Lib.cut;rw[ykS h,zI (by omega)];simp[List.drop_append]
theorem xdW(u:Nat):(58:UInt8)∉Lib.decDigits u:=fun h=>by have:=ygG u _ h;have e:(58:UInt8).toNat=58:=rfl;omega
theorem cutP_dec(u:Nat)(r:Bs)(h:(Lib.decDigits u++58::r).length<4294967281):cutP (Lib.decDigits u++58::r) [58]=some (Lib.decDigits u,r,true):=by unfold cutP;rw[zA h,ymO (xdW u)];rfl
def zdC:List Bs->Bs
 |[]=>[]|t::ts=>Lib.decDigits t.length++58::(t++zdC ts)
def digB(b:UInt8):Bool:=decide (48<=b.toNat)&&decide (b.toNat<=57)
theorem ygN{b:UInt8}:digB b=true↔48<=b.toNat/\b.toNat<=57:=by unfold digB;simp
def vaF(l:Bs):Nat:=l.foldl (fun a b=>10*a+(b.toNat-48)) 0
theorem yvL(l:Bs)(b:UInt8):vaF (l++[b])=10*vaF l+(b.toNat-48):=by unfold vaF;rw[List.foldl_append];rfl
theorem xbB:∀(l:Bs) (a:Nat),(∀b∈l,b.toNat<=57)->l.foldl (fun a b=>10*a+(b.toNat-48)) a<(a+1)*10^l.length
 |[],a,_=>by simp
 |b::l,a,h=>by
  have h1:=xbB l (10*a+(b.toNat-48)) fun x hx=>h x (aL _ hx);have hb:=h b aM;simp only[List.foldl_cons,aN];refine Nat.lt_of_lt_of_le h1 ?_
  rw[jL,show(a+1)*(10^l.length*10)=(10*a+10)*10^l.length by
   rw[Nat.mul_comm (10^l.length) 10,<-Nat.mul_assoc];congr 1;omega]
  exact Nat.mul_le_mul_right _ (by omega)
theorem val_lt{l:Bs}(h:∀b∈l,48<=b.toNat/\b.toNat<=57)(hl:l.length<=15):vaF l<1000000000000000:=by have h1:=xbB l 0 fun b hb=>(h b hb).2;have h2:10^l.length<=10^15:=Nat.pow_le_pow_right (by decide) hl;unfold vaF;omega
theorem xdD:∀(n:Nat) (l:Bs),l.length=n+1->(l.head? ≠ some 48∨n=0)->(∀b∈l,48<=b.toNat/\b.toNat<=57)->Lib.decDigits (vaF l)=l/\(l.head? ≠ some 48->1<=vaF l)
 |0,l,hl,_,hd=>by
  obtain⟨b,rfl⟩:∃b,l=[b]:=by
   match l,hl with
   |[b],_=>exact⟨b,rfl⟩
  have hb:=hd b aM;have hv:vaF [b]=b.toNat-48:=by simp[vaF]
  rw[hv];refine⟨?_,fun h=>?_⟩
  ·rw[ztA,zI (by omega),show 48+(b.toNat-48)=b.toNat by omega];simp
  ·have h1:b≠48:=fun e=>h (by rw[e];rfl);have h2:b.toNat≠48:=fun e=>h1 (UInt8.toNat_inj.1 e);omega
 |n+1,l,hl,hh,hd=>by
  rcases List.eq_nil_or_concat l with rfl|⟨L,b,rfl⟩
  ·cases hl
  ·have hL:L.length=n+1:=by simpa using hl
   have hb:=hd b (by simp);obtain⟨c,m,rfl⟩:∃c m,L=c::m:=by
    cases L with
    |nil=>cases hL
    |cons c m=>exact⟨c,m,rfl⟩
   have hh':(c::m).head? ≠ some 48:=by
    rcases hh with h|h
    ·simpa using h
    ·cases h
   obtain⟨h1,h2⟩:=xdD n (c::m) hL (.inl hh') fun x hx=>hd x (by simp only[iX,bD];exact .inl hx);have h3:=h2 hh';rw[iX,yvL];refine⟨?_,fun _=>by omega⟩;rw[ztA,zH (by omega),show(10*vaF (c::m)+(b.toNat-48))/10=vaF (c::m) by omega,show(10*vaF (c::m)+(b.toNat-48))%10=b.toNat-48 by omega,h1,show 48+(b.toNat-48)=b.toNat by omega];simp
def numB(s:Bs):Bool:=s != []&&decide (s.length<=15)&&(s.head? != some 48||s==[48])&&s.all digB
theorem yyO{s:Bs}(h:s.all digB=true):∀b∈s,48<=b.toNat/\b.toNat<=57:=fun b hb=>ygN.1 (aY.1 h b hb)
theorem ybT{s:Bs}(h:numB s=true):Lib.decDigits (vaF s)=s/\vaF s<1000000000000000:=by
 unfold numB at h;simp only[aF,zD]at h;obtain⟨⟨⟨h1,h2⟩,h3⟩,h4⟩:=h;have hd:=yyO h4;refine⟨?_,val_lt hd h2⟩;have hne:s≠[]:=by simpa using h1
 obtain⟨n,hn⟩:∃n,s.length=n+1:=⟨s.length-1,by have:=List.length_pos_iff.2 hne;omega⟩;refine(xdD n s hn ?_ hd).1;rcases bY _ _▸h3 with h|h
 ·exact .inl (by simpa using h)
 ·right;rw[beq_iff_eq.1 h]at hn;simp only[aN,List.length_nil]at hn;omega
theorem dec_num(u:Nat)(hu:u<1000000000000000):numB (Lib.decDigits u)=true/\vaF (Lib.decDigits u)=u:=by
 have hl:=zwP 15 u (by decide) hu;have hd:=ygG u;have hb:numB (Lib.decDigits u)=true:=by
  unfold numB;simp only[aF,zD];refine⟨⟨⟨by simpa using ytA u,hl⟩,?_⟩,aY.2 fun b hb=>ygN.2 (hd b hb)⟩;by_cases h0:u=0
  ·subst h0;rw[show Lib.decDigits 0=[48] by rw[ztA];rfl];rfl
  ·obtain⟨b,l,h1,h2⟩:=yoT u h0;rw[h1];simp only[List.head?_cons,bY];left;simpa using h2
 refine⟨hb,?_⟩;have h1:=(ybT hb).1;have h2:=(ybT hb).2;have p1:=yhW u (by omega);have p2:=yhW (vaF (Lib.decDigits u)) (by omega);rw[h1,p1]at p2;injection p2 with p2;exact p2.symm
theorem ylE{p:UInt8->Bool}:∀{l:Bs},l.dropWhile p=[]->∀b∈l,p b=true
 |[],_,b,hb=>by cases hb
 |c::l,h,b,hb=>by
  rw[fI]at h;split at h
  ·rename_i hc;rcases aK.1 hb with rfl|hb
   ·exact hc
   ·exact ylE h b hb
  ·cases h
theorem ygS{p:UInt8->Bool}:∀{l:Bs} {b:UInt8},b∈l->p b=false->b∈l.dropWhile p
 |c::l,b,hb,hp=>by
  rw[fI];split
  ·rename_i hc;rcases aK.1 hb with rfl|hb
   ·rw[hp]at hc;cases hc
   ·exact ygS hb hp
  ·exact hb
theorem ycR{l cs:Bs}:Lib.trimS l cs=[]↔∀b∈l,cs.contains b=true:=by
 unfold Lib.trimS Lib.trimLeftS Lib.trimRightS;constructor
 ·intro h b hb;cases hc:cs.contains b with
  |true=>rfl|false=>have h1:=ygS (gO.2 hb) hc;have h2:=ylE h b (gO.2 h1);rw[hc]at h2;cases h2
 ·intro h;rw[yiD (l:=l.reverse) fun b hb=>h b (gO.1 hb)];rfl
theorem xdI(b:UInt8):tenL.contains b=digB b:=by have:=zuI (fun b=>tenL.contains b==digB b) (by kernel_rfl) b;simpa using this
theorem trim_ten(l:Bs):(Lib.trimS l tenL != ([]:Bs)) = !l.all digB:=by
 cases h:l.all digB with
 |true=>rw[ycR.2 fun b hb=>by rw[xdI];exact aY.1 h b hb];rfl|false=>
  rw[Bool.not_false,bne_iff_ne];intro e;have h2:l.all digB=true:=aY.2 fun b hb=>by rw[<-xdI];exact ycR.1 e b hb
  rw[h]at h2;cases h2
def colF:Bs->Option (Bs×Bs)
 |[]=>none|b::l=>if b=58 then some ([],l)else(colF l).map fun p=>(b::p.1,p.2)
theorem zwX:∀{s h r:Bs},colF s=some (h,r)->s=h++58::r/\(58:UInt8)∉h
 |b::l,h,r,e=>by
  unfold colF at e;split at e
  ·rename_i hb;cases e;exact⟨by rw[hb];rfl,by simp⟩
  ·rename_i hb;cases hc:colF l with
   |none=>rw[hc]at e;cases e
   |some p=>
    rw[hc]at e;obtain⟨h',r'⟩:=p;cases e;obtain⟨h1,h2⟩:=zwX hc
    exact⟨by rw[h1];rfl,fun hm=>by
     rcases aK.1 hm with hm|hm
     ·exact hb hm.symm
     ·exact h2 hm⟩
theorem ytN:∀{s:Bs},colF s=none->(58:UInt8)∉s
 |[],_=>by simp
 |b::l,e=>by
  unfold colF at e;split at e
  ·cases e
  ·rename_i hb;intro hm;rcases aK.1 hm with hm|hm
   ·exact hb hm.symm
   ·exact ytN (Option.map_eq_none_iff.1 e) hm
theorem yvW:∀{s:Bs},(58:UInt8)∉s->Lib.index s [58] = -1
 |[],_=>by simp[Lib.index]
 |b::l,h=>by have hb:b≠58:=fun e=>h (by rw[e];exact aM);rw[yaU,zH (by simp[gV];exact fun e=>hb e.symm),yvW fun hm=>h (aL _ hm),zI rfl]
theorem cut_col(s:Bs):Lib.cut s [58]=match colF s with
  |some p=>(p.1,p.2,true)|none=>(s,[],false):=by
 cases h:colF s with
 |some p=>obtain⟨a,r⟩:=p;obtain⟨rfl,h2⟩:=zwX h;exact ymO h2
 |none=>unfold Lib.cut;rw[yvW (ytN h)];rfl
def txtF:Nat->Bs->Option (List Bs)
 |_,[]=>some []|0,_::_=>none|f+1,b::s=>match colF (b::s) with
  |none=>none|some (h,r)=>bif numB h&&decide (vaF h<=r.length)then(txtF f (r.drop (vaF h))).map (r.take (vaF h) :: ·)else none
theorem ygK:∀{f:Nat} {s:Bs} {l:List Bs},txtF f s=some l->zdC l=s
 |_,[],l,h=>by unfold txtF at h;cases h;rfl
 |0,_::_,l,h=>by cases h
 |f+1,b::s,l,h=>by
  unfold txtF at h;cases hc:colF (b::s) with
  |none=>rw[hc]at h;cases h
  |some p=>
   obtain⟨a,r⟩:=p;rw[hc]at h;simp only[]at h;cases hb:numB a&&decide (vaF a<=r.length) with
   |false=>rw[hb]at h;cases h
   |true=>
    rw[hb]at h;simp only[aF,zD]at hb;simp only[zE]at h;cases ht:txtF f (r.drop (vaF a)) with
    |none=>rw[ht]at h;cases h
    |some m=>rw[ht]at h;cases h;have h1:=ygK ht;have h2:=(ybT hb.1).1;rw[(zwX hc).1];show Lib.decDigits (r.take (vaF a)).length++58::(r.take (vaF a)++zdC m)=_;rw[bA,Nat.min_eq_left hb.2,h2,h1,List.take_append_drop]
theorem xfC:∀{f:Nat} {s:Bs} {l:List Bs},txtF f s=some l->l.length<=s.length/\∀t∈l,t.length<=s.length
 |_,s,l,h=>by
  have h1:=ygK h;subst h1;clear h;induction l with
  |nil=>simp[zdC]|cons t l ih=>
   simp only[zdC,aC,aN];refine⟨by omega,fun x hx=>?_⟩;rcases aK.1 hx with rfl|hx
   ·omega
   ·have:=ih.2 x hx;omega
section
attribute [local irreducible] wpList wpT Code.wp Calls Code.rounds
variable {S:Mem}{w:World}
theorem bu1:Tryz.prog.underlying 101=some (.pointer 104):=by kernel_rfl
theorem bu2:Tryz.prog.underlying 234=some .unsafePointer:=by kernel_rfl
theorem bi1:(Tryz.prog.info? 104).map (·.size)=some 2:=by kernel_rfl
theorem bl1:liesAt aA Tryz.prog.depth 104 (2/Tryz.prog.cellsOf 104) 0 104 1=true:=by kernel_rfl
theorem bf0:xdO aA 104 0 0:=fun _ _ _=>by kernel_rfl
theorem bf1:xdO aA 104 1 1:=fun _ _ _=>by kernel_rfl
theorem bto:TOne aA 101:=⟨fun _=>by kernel_rfl,fun _=>by kernel_rfl⟩
theorem bto2:TOne aA 102:=⟨fun _=>by kernel_rfl,fun _=>by kernel_rfl⟩
theorem btz:TSz aA 101 1:=fun _=>by kernel_rfl
theorem bnoEsc(x:Value)(w:World):(callFunc 241 [x].toArray).run aA w = .ok (.value x) w:=by have h:=run_callFunc_extern (P:=aA) (w:=w) (args:=#[x]) Tryz.func241 (by kernel_rfl) (by kernel_rfl) (by kernel_rfl) (e:=Extern.AbiNoEscape.same) (by kernel_rfl);show(callFunc 241 #[x]).run aA w=_;rw[h,Lib.run_noEscape];rfl
def znJ(x0:Bs):Option Bs:=some x0
section
variable {P:Program}{w:World}{B:Bas}{S:Mem}{L:List Res}{e:Operand->Value}{dst:Option Tmp}{g:Option (Nat×Bool)}{ty:TypeId}{pos:String}{aft:Array Edge}{x y:Operand}{T T1 T2 T':TypeId}{a:Addr}
theorem r_eqPN(hu:P.underlying T=some (.pointer T1))(hx:e x = .pointer none)(hy:e y = .pointer none):(execOp e ⟨dst,.binOp .eql T x y T',ty,pos,aft,g⟩).run P w = .ok (.value (.bool true)) w:=by
 have h:(Op.equal T (.pointer none) (.pointer none)).run P w = .ok true w:=by
  have h:∀d,(Op.equalIn (d+1) T (.pointer none) (.pointer none)).run P w = .ok true w:=fun d=>by simp[Op.equalIn,Go.underlying,hu]
  exact h 9999
 simp[execOp,eqGuard,binOp,hx,hy,h]
theorem r_eqPS(hu:P.underlying T=some (.pointer T1))(hx:e x = .pointer (some a))(hy:e y = .pointer none):(execOp e ⟨dst,.binOp .eql T x y T',ty,pos,aft,g⟩).run P w = .ok (.value (.bool false)) w:=by
 have h:(Op.equal T (.pointer (some a)) (.pointer none)).run P w = .ok false w:=by
  have h:∀d,(Op.equalIn (d+1) T (.pointer (some a)) (.pointer none)).run P w = .ok false w:=fun d=>by simp[Op.equalIn,Go.underlying,hu]
  exact h 9999
 simp[execOp,eqGuard,binOp,hx,hy,h]
theorem r_nePP{j:TypeInfo}(hu:P.underlying T=some (.pointer T1))(hj:P.info? T1=some j)(hx:e x = .pointer (some a))(hy:e y = .pointer (some a)):(execOp e ⟨dst,.binOp .neq T x y T',ty,pos,aft,g⟩).run P w = .ok (.value (.bool false)) w:=by have h:=Lib.run_neq_ptr_same (P:=P) w a hu hj;simp[execOp,eqGuard,hx,hy,h]
end
theorem ybN{b0_:Nat}{x0:Bs}{pv1:Value}{pcs1 prs1:LV}{pa1:Value}(H:HS ⟨S,zcD [.blk b0_ ([pa1]++([pv1])) 104,.osl (pv1) (x0).length 1 pcs1 prs1 5],w⟩ S w [.blk b0_ ([pa1]++([pv1])) 104,.osl (pv1) (x0).length 1 pcs1 prs1 5]) (pg1:RL S pcs1 x0) (pg2:BA b0_ pa1) {r:Bs} (hF:znJ x0=some r):Calls aA 167 #[.pointer (some ⟨b0_,0,none⟩)] w fun e w'=>∃(S2:Mem) (pv2:Value) (pcs2 prs2:LV) (pa2:Value),e = .returned (.tuple #[])/\HS ⟨S,zcD [.blk b0_ ([pa1]++([pv1])) 104,.osl (pv1) (x0).length 1 pcs1 prs1 5],w⟩ S2 w' [.blk b0_ ([pa2]++([pv2])) 104,.osl (pv2) (r).length 1 pcs2 prs2 5]/\RL S2 pcs2 r/\BA b0_ pa2:=by
 obtain rfl:=osi hF;obtain⟨j,hj,hjs⟩:=Option.map_eq_some_iff.1 bi1;have hblk:w.heap[b0_]? = some (.cells ([pa1]++([pv1])).toArray 104 (0,0)):=H.own 0 _ rfl;have hsh:w.shape? (⟨b0_,0,none⟩:Addr).block=some (104,2):=by simp[World.shape?,hblk]
 refine enter (n:=20) Tryz.func167 rfl rfl rfl ?_;rcases pg2 with rfl|rfl
 ·refine wp_seq_k ?_;intro K1 hK1;refine wp_region_lit ?_;refine zhQ (zqX (v:=.pointer (some ⟨b0_,0,none⟩)) rfl) ?_;refine zhQ (zqN rfl) ?_;refine zhQ (zrZ bf0 rfl) ?_;refine zhQ (zuN (v:=.pointer none) bto H rfl (k:=0) rfl rfl) ?_;refine zhQ (r_eqPN bu1 rfl rfl) ?_;refine wpList_nil ?_;refine zvE ?_;refine hK1 _ _ ?_;refine c_true rfl rfl ?_;refine wp_region_lit ?_;refine zhQ (zqX (v:=.pointer (some ⟨b0_,0,none⟩)) rfl) ?_;refine zhQ (zqX (v:=.pointer (some ⟨b0_,0,none⟩)) rfl) ?_
  refine zhQ (c:=.pointer (some ⟨b0_,0,none⟩)) (by
   have h:=Lib.run_to_unsafe (P:=aA) w ⟨b0_,0,none⟩ bu1 bu2 hj (by rw[hjs];decide) hsh (Nat.zero_lt_succ 1);simp only[execOp]
   exact(by rw[Sem.run_bind];erw [h];rfl)) ?_
  refine p_callv (l:=[.pointer (some ⟨b0_,0,none⟩)]) rfl (bnoEsc _ _) ?_
  refine zhQ (c:=.pointer (some ⟨b0_,0,none⟩)) (by
   have h:=Lib.run_from_unsafe (P:=aA) w ⟨b0_,0,none⟩ bu2 bu1 hj hsh bl1;simp only[execOp]
   exact(by rw[Sem.run_bind];erw [h];rfl)) ?_
  refine zhQ (zqN rfl) ?_;refine zhQ (zrZ bf0 rfl) ?_;refine p_ofs (ynR (k:=0) (v:=.pointer (some ⟨b0_,0,none⟩)) (l:=[.pointer (some ⟨b0_,0,none⟩)]) btz H rfl rfl rfl (cells_one rfl) rfl (fun u hu=>aY.1 (rfl:([Value.pointer (some ⟨b0_,0,none⟩)]).all (·.oneCell')=true) u hu) rfl) ?_;clear H;intro w2 H;refine wpList_nil ?_;refine e_00 rfl ?_;exact⟨S,pv1,pcs1,prs1,.pointer (some ⟨b0_,0,none⟩),rfl,H,pg1,.inr rfl⟩
 ·refine wp_seq_k ?_;intro K1 hK1;refine wp_region_lit ?_;refine zhQ (zqX (v:=.pointer (some ⟨b0_,0,none⟩)) rfl) ?_;refine zhQ (zqN rfl) ?_;refine zhQ (zrZ bf0 rfl) ?_;refine zhQ (zuN (v:=.pointer (some ⟨b0_,0,none⟩)) bto H rfl (k:=0) rfl rfl) ?_;refine zhQ (r_eqPS bu1 rfl rfl) ?_;refine wpList_nil ?_;refine zvE ?_;refine hK1 _ _ ?_;refine xaV rfl rfl ?_;refine wp_seq_k ?_;intro K2 hK2;refine wp_region_lit ?_;refine zhQ (zqX (v:=.pointer (some ⟨b0_,0,none⟩)) rfl) ?_;refine zhQ (zqN rfl) ?_;refine zhQ (zrZ bf0 rfl) ?_;refine zhQ (zuN (v:=.pointer (some ⟨b0_,0,none⟩)) bto H rfl (k:=0) rfl rfl) ?_;refine zhQ (zqX (v:=.pointer (some ⟨b0_,0,none⟩)) rfl) ?_;refine zhQ (r_nePP bu1 hj rfl rfl) ?_;refine wpList_nil ?_;refine zvE ?_;refine hK2 _ _ ?_;refine xaV rfl rfl ?_;refine wp_skip ?_;refine e_00 rfl ?_;exact⟨S,pv1,pcs1,prs1,.pointer (some ⟨b0_,0,none⟩),rfl,H,pg1,.inr rfl⟩
theorem bus:Tryz.prog.underlying 102=some (.slice 5):=by kernel_rfl
theorem bup:Tryz.prog.underlying 179=some (.pointer 5):=by kernel_rfl
theorem buc:Tryz.prog.cellsOf 5=1:=by kernel_rfl
section
variable {P:Program}{w:World}{e:Operand->Value}{dst:Option Tmp}{g:Option (Nat×Bool)}{ty:TypeId}{pos:String}{aft:Array Edge}{x y:Operand}{T T1:TypeId}
theorem r_usd{r:Value}{v:Value}{w':World}(hx:e x=v)(h:(Builtin.unsafeSliceData_ #[T] ty #[v]).run P w = .ok r w'):(execOp e ⟨dst,.call ⟨.builtin .unsafeSliceData,#[x],#[T]⟩,ty,pos,aft,g⟩).run P w = .ok (.value r) w':=by simp[execOp,resolve,invoke,builtin,hx,h]
theorem r_ust{r:Value}{v u:Value}{w':World}(hx:e x=v)(hy:e y=u)(h:(Builtin.unsafeString_ #[T,T1] ty #[v,u]).run P w = .ok r w'):(execOp e ⟨dst,.call ⟨.builtin .unsafeString,#[x,y],#[T,T1]⟩,ty,pos,aft,g⟩).run P w = .ok (.value r) w':=by simp[execOp,resolve,invoke,builtin,hx,hy,h]
theorem stR_rm:∀{L:List Res} {k:Nat} {x:Res},rmR (stR L k x) k=rmR L k
 |[],_,_=>rfl|_::_,0,_=>rfl|y::l,k+1,x=>by simp only[stR,rmR,stR_rm (L:=l) (k:=k)]
end
theorem yfP{B:Bas}{S:Mem}{w:World}{L:List Res}{k1 k2 b:Nat}{a v:Value}{cs rs:LV}{xs:Bs}(H:HS B S w L)(h1:lkR L k1=some (.blk b ([a]++([v])) 104))(h2:lkR L k2=some (.osl v xs.length 1 cs rs 5))(h0:RL S cs xs)(hl:xs.length<=9223372036854775807):Calls aA 69 #[.pointer (some ⟨b,0,none⟩)] w fun e w'=>e = .returned (str xs)/\HS B S w' (rmR L k2):=by
 have hown:=H.own k2 _ h2;refine enter (n:=14) Tryz.func69 rfl rfl rfl ?_;rcases hown with⟨rfl,hn,hcs,hrs⟩|⟨gb,c,fz,rfl,hnc,hlen,hcap,hblk,hfz⟩
 ·obtain rfl:xs=[]:=aS hn;refine wp_seq_k ?_;intro K1 hK1;refine wp_region_lit ?_;refine zhQ (ztE (v:=str ([]:Bs)) rfl) ?_;refine wpList_nil ?_;refine zvE ?_;refine hK1 _ _ ?_;refine wp_seq_k ?_;intro K2 hK2;apply zwV 10 (kinds []) rfl rfl (by kernel_rfl);intro vs;simp only[tkS,tkZ,drS,drZ];replace H:=H.drew;refine znG (fun w hx=>zqX (v:=.pointer (some ⟨b,0,none⟩)) rfl) rfl rfl ?_;refine znG (fun w hx=>zqN rfl) rfl rfl ?_;refine znG (fun w hx=>zrZ bf1 rfl) rfl rfl ?_;refine znG (fun w hx=>zuN (v:=.slice none 0 0) bto2 (H.ext hx) rfl h1 rfl) rfl rfl ?_;refine znG (fun w hx=>r_usd (r:=.pointer none) rfl (Lib.run_unsafeSliceData_nil _ _ _ _ _)) rfl rfl ?_;refine znG (fun w hx=>zqX (v:=.pointer (some ⟨b,0,none⟩)) rfl) rfl rfl ?_;refine znG (fun w hx=>zqN rfl) rfl rfl ?_;refine znG (fun w hx=>zrZ bf1 rfl) rfl rfl ?_;refine znG (fun w hx=>zuN (v:=.slice none 0 0) bto2 (H.ext hx) rfl h1 rfl) rfl rfl ?_;refine znG (fun w hx=>yzB bus rfl (H.ext hx) h2 rfl) rfl rfl ?_;refine t_nil (fun w2 hx hF hA=>?_);replace H:=H.ext hx;clear hx hF hA;refine zhQ (c:=str ([]:Bs)) (r_ust rfl rfl (Lib.run_unsafeString_none _ _ _ _ _)) ?_;replace H:=H.rm k2;refine zhQ (ztE (v:=str ([]:Bs)) rfl) ?_;refine wpList_nil ?_;refine ynG ?_;refine zvE ?_;refine hK2 _ _ ?_;refine wp_ret ?_;refine e_1 rfl (ysX (v:=str ([]:Bs)) rfl) ?_;exact⟨rfl,H⟩
 ·by_cases hc:c=0
  ·subst hc;obtain rfl:xs=[]:=aS (by omega);refine wp_seq_k ?_;intro K1 hK1;refine wp_region_lit ?_;refine zhQ (ztE (v:=str ([]:Bs)) rfl) ?_;refine wpList_nil ?_;refine zvE ?_;refine hK1 _ _ ?_;refine wp_seq_k ?_;intro K2 hK2;apply zwV 10 (kinds [(4,.inr (fun v _=>∃a,v = .pointer (some a)))]) rfl rfl (by kernel_rfl);intro vs;simp only[tkS,tkZ,drS,drZ];replace H:=H.drew;refine znG (fun w hx=>zqX (v:=.pointer (some ⟨b,0,none⟩)) rfl) rfl rfl ?_;refine znG (fun w hx=>zqN rfl) rfl rfl ?_;refine znG (fun w hx=>zrZ bf1 rfl) rfl rfl ?_;refine znG (fun w hx=>zuN (v:=sl gb 0 0 0) bto2 (H.ext hx) rfl h1 rfl) rfl rfl ?_
   refine wpT_low (φ:=fun v _=>∃a,v = .pointer (some a)) rfl rfl (fun _ _ _ h _=>h) rfl (fun h=>by cases h) (fun w hx hF R hR=>by
    have hsh:w.shape? (⟨gb,0,none⟩:Addr).block=some (5,(cs++rs).toArray.size):=by
     have hb2:w.heap[gb]? = some (.cells (cs++rs).toArray 5 fz):=by rw[hx.block gb (lt_of_heap hblk)];exact hblk
     simp[World.shape?,hb2]
    have hrun:=Lib.run_unsafeSliceData_zero (P:=aA) w #[102] 179 5 bup ⟨gb,0,none⟩ 0 _ hsh;rw[zpJ,r_usd rfl hrun,ynK]
    exact hR (.pointer (some ⟨w.heap.size,0,none⟩)) (w.alloc (.view ⟨gb,0,none⟩ 5)) (Ext.alloc w _) ⟨_,rfl⟩ (fun h=>by cases h)) ?_
   rw[yfA];refine znG (fun w hx=>zqX (v:=.pointer (some ⟨b,0,none⟩)) rfl) rfl rfl ?_;refine znG (fun w hx=>zqN rfl) rfl rfl ?_;refine znG (fun w hx=>zrZ bf1 rfl) rfl rfl ?_;refine znG (fun w hx=>zuN (v:=sl gb 0 0 0) bto2 (H.ext hx) rfl h1 rfl) rfl rfl ?_;refine znG (fun w hx=>yzB bus rfl (H.ext hx) h2 rfl) rfl rfl ?_;refine t_nil (fun w2 hx hF hA=>?_);obtain⟨ad,had⟩:=fact_rel hF 4 rfl rfl;replace H:=H.ext hx;clear hx hF hA;refine zhQ (c:=str ([]:Bs)) (r_ust (by exact had) rfl (Lib.run_unsafeString_none _ _ _ _ _)) ?_;replace H:=H.rm k2;refine zhQ (ztE (v:=str ([]:Bs)) rfl) ?_;refine wpList_nil ?_;refine ynG ?_;refine zvE ?_;refine hK2 _ _ ?_;refine wp_ret ?_;refine e_1 rfl (ysX (v:=str ([]:Bs)) rfl) ?_;exact⟨rfl,H⟩
  ·skip
   refine wp_seq_k ?_;intro K1 hK1;refine wp_region_lit ?_;refine zhQ (ztE (v:=str ([]:Bs)) rfl) ?_;refine wpList_nil ?_;refine zvE ?_;refine hK1 _ _ ?_;refine wp_seq_k ?_;intro K2 hK2;apply zwV 10 (kinds []) rfl rfl (by kernel_rfl);intro vs;simp only[tkS,tkZ,drS,drZ];replace H:=H.drew;refine znG (fun w hx=>zqX (v:=.pointer (some ⟨b,0,none⟩)) rfl) rfl rfl ?_;refine znG (fun w hx=>zqN rfl) rfl rfl ?_;refine znG (fun w hx=>zrZ bf1 rfl) rfl rfl ?_;refine znG (fun w hx=>zuN (v:=sl gb 0 xs.length c) bto2 (H.ext hx) rfl h1 rfl) rfl rfl ?_;refine znG (fun w hx=>r_usd (r:=.pointer (some ⟨gb,0,none⟩)) rfl (Lib.run_unsafeSliceData_row _ _ _ _ _ _ hc)) rfl rfl ?_;refine znG (fun w hx=>zqX (v:=.pointer (some ⟨b,0,none⟩)) rfl) rfl rfl ?_;refine znG (fun w hx=>zqN rfl) rfl rfl ?_;refine znG (fun w hx=>zrZ bf1 rfl) rfl rfl ?_;refine znG (fun w hx=>zuN (v:=sl gb 0 xs.length c) bto2 (H.ext hx) rfl h1 rfl) rfl rfl ?_;refine znG (fun w hx=>yzB bus rfl (H.ext hx) h2 rfl) rfl rfl ?_;refine t_nil (fun w2 hx hF hA=>?_);have hb2:w2.heap[gb]? = some (.cells (cs++rs).toArray 5 fz):=by rw[hx.block gb (lt_of_heap hblk)];exact hblk
   replace H:=H.ext hx;clear hx hF hA;refine p_ofc (c:=str xs) (φ:=fun w'=>HS B S w' (rmR L k2)) ?_ ?_
   ·by_cases hx0:xs=[]
    ·subst hx0;exact⟨w2,r_ust rfl rfl (Lib.run_unsafeString_none _ _ _ _ _),H.rm k2⟩
    ·have hsh:w2.shape? gb=some (5,(cs++rs).toArray.size):=by simp[World.shape?,hb2]
     have hcs:=RL.is_u8s h0;have hxl:xs.length<=(cs++rs).length:=by rw[aC,hlen];omega
     have hrun:=Lib.run_unsafeString_row (P:=aA) w2 179 3 9 5 bup buc gb _ hsh xs hx0 (by simpa using hxl) hl (fun j x hj=>by
      rw[zeE,zhA hb2,aV,aH (by have:=(aD.1 hj).1;omega),hcs]
      exact u8s_get hj)
     refine⟨_,r_ust rfl rfl hrun,?_⟩
     have H2:=H.upd (w':=w2.freeze ⟨gb,0,none⟩ xs.length) (r':=.osl (.slice none 0 0) 0 1 [] [] 5) h2 (by unfold World.freeze;split<;>simp) (by unfold World.freeze;split<;>rfl) (by unfold World.freeze;split<;>rfl) (by unfold World.freeze;split<;>rfl) (fun i hi hne=>by
      have hig:gb≠i:=fun e=>hne (by rw[e];rfl);unfold World.freeze;split
      ·rfl
      ·simp[fU,hig]) (.inl ⟨rfl,rfl,rfl,rfl⟩) (fun b hb=>by cases hb)
     have H3:=H2.rm k2;rw[stR_rm]at H3;exact H3
   clear H;intro w3 H;refine zhQ (ztE (v:=str xs) rfl) ?_;refine wpList_nil ?_;refine ynG ?_;refine zvE ?_;refine hK2 _ _ ?_;refine wp_ret ?_;refine e_1 rfl (ysX (v:=str xs) rfl) ?_;exact⟨rfl,H⟩
theorem to9:TOne aA 9:=⟨fun _=>by kernel_rfl,fun _=>by kernel_rfl⟩
theorem to102:TOne aA 102:=⟨fun _=>by kernel_rfl,fun _=>by kernel_rfl⟩
theorem tz104:yrX aA 104 (.agg #[.pointer none,.slice none 0 0]):=fun _=>by kernel_rfl
theorem u9:Tryz.prog.underlying 9=some .string:=by kernel_rfl
theorem u22:Tryz.prog.underlying 22=some (.slice 9):=by kernel_rfl
theorem is67:IsFn aA 67:=isFn Tryz.func67 (by kernel_rfl) (by kernel_rfl)
theorem is68:IsFn aA 68:=isFn Tryz.func68 (by kernel_rfl) (by kernel_rfl)
theorem is69:IsFn aA 69:=isFn Tryz.func69 (by kernel_rfl) (by kernel_rfl)
theorem is167:IsFn aA 167:=isFn Tryz.func167 (by kernel_rfl) (by kernel_rfl)
theorem xfN:xdO aA 104 1 1:=fun _ _ _=>by kernel_rfl
theorem tn102:TSn aA 102 5 (.int .u8 0) [.int .u8 0] 1 1:=TSn.mk' (by kernel_rfl) (by kernel_rfl) rfl rfl rfl rfl
theorem tsz9:TSz aA 9 1:=fun _=>by kernel_rfl
theorem tsz102:TSz aA 102 1:=fun _=>by kernel_rfl
def ziE(x0:Bs)(x1:Bs):Option (Int×Bs):=
 aQ (znJ x0) fun y1=>aQ (app y1 x1) fun y2=>some ((((x1).length:Int),y2))
theorem yaE{b0_:Nat}{x0:Bs}{pv1:Value}{pcs1 prs1:LV}{pa1:Value}(H:HS ⟨S,zcD [.blk b0_ (([pa1]++([pv1]))) 104,.osl (pv1) (x0).length 1 pcs1 prs1 5],w⟩ S w [.blk b0_ (([pa1]++([pv1]))) 104,.osl (pv1) (x0).length 1 pcs1 prs1 5])(pg1:RL S pcs1 x0)(pg2:BA b0_ pa1){x1:Bs}{r:Int×Bs}(hF:ziE x0 x1=some r):Calls aA 67 #[.pointer (some ⟨b0_,0,none⟩),str (x1)] w fun e w'=>∃(S2:Mem) (pv4:Value) (pcs4 prs4:LV) (pa4:Value),e = .returned (.tuple #[.int .i64 (r.1),.nilIface])/\HS ⟨S,zcD [.blk b0_ (([pa1]++([pv1]))) 104,.osl (pv1) (x0).length 1 pcs1 prs1 5],w⟩ S2 w' [.blk b0_ (([pa4]++([pv4]))) 104,.osl (pv4) (r.2).length 1 pcs4 prs4 5]/\RL S2 pcs4 r.2/\BA b0_ pa4:=by refine enter (n:=19) Tryz.func67 rfl rfl rfl ?_;unfold ziE at hF;refine sr ?_;intro K1 hK1;refine p_as (v:=.int .i64 (0)) rfl ?_;refine p_as (v:=.nilIface) rfl ?_;refine xk hK1 ?_;clear hK1;refine sr ?_;intro K2 hK2;refine p_mv (v:=.pointer (some ⟨b0_,0,none⟩)) rfl ?_;obtain⟨y1,e1,hF⟩:=bnd hF;refine ytO (l:=[.pointer (some ⟨b0_,0,none⟩)]) is167 rfl ?_;refine(ybN (H.hand [0,1] rfl) pg1 pg2 e1).mono ?_;rintro _ w1 ⟨S1,pv2,pcs2,prs2,pa2,rfl,H2,pg3,pg4⟩;obtain⟨H1,hle1⟩:=H.frame [0,1] [] rfl H2;clear H H2;have H:=H1;clear H1;replace H:HS ⟨S,zcD [.blk b0_ (([pa1]++([pv1]))) 104,.osl (pv1) (x0).length 1 pcs1 prs1 5],w⟩ S1 w1 [.blk b0_ (([pa2]++([pv2]))) 104,.osl (pv2) (y1).length 1 pcs2 prs2 5]:=H;refine xk hK2 ?_;clear hK2;refine sr ?_;intro K3 hK3;refine p_mv (v:=.pointer (some ⟨b0_,0,none⟩)) rfl ?_;refine p_mv (v:=.pointer (some ⟨b0_,0,none⟩)) rfl ?_;refine zhQ (zqN rfl) ?_;refine zhQ (zrZ xfN rfl) ?_;refine zhQ (zuN (v:=pv2) to102 H rfl (k:=0) rfl rfl) ?_;refine p_mv (v:=str (x1)) rfl ?_;obtain⟨y2,e2,hF⟩:=bnd hF;refine p_of1 (xcL (k:=1) (l:=x1) tn102 u9 H rfl rfl pg3 rfl e2) ?_;clear H;rintro w2 v1 ⟨cs1,rs1,H,g1⟩;replace H:HS ⟨S,zcD [.blk b0_ (([pa1]++([pv1]))) 104,.osl (pv1) (x0).length 1 pcs1 prs1 5],w⟩ S1 w2 [.blk b0_ (([pa2]++([pv2]))) 104,.osl (v1) (y2).length 1 cs1 rs1 5]:=H;refine zhQ (zqN rfl) ?_;refine zhQ (zrZ xfN rfl) ?_;refine p_ofs (ynR (k:=0) (v:=v1) (l:=[v1]) tsz102 H rfl rfl rfl (cells_one (HS.ownOne H (k:=1) rfl)) rfl (fun u hu=>by rw[aT]at hu;rw[hu];exact HS.ownOne H (k:=1) rfl) rfl) ?_;clear H;intro w3 H;replace H:HS ⟨S,zcD [.blk b0_ (([pa1]++([pv1]))) 104,.osl (pv1) (x0).length 1 pcs1 prs1 5],w⟩ S1 w3 [.blk b0_ (([pa2]++([v1]))) 104,.osl (v1) (y2).length 1 cs1 rs1 5]:=H;refine xk hK3 ?_;clear hK3;refine sr ?_;intro K4 hK4;refine p_mv (v:=str (x1)) rfl ?_;refine zhQ (xaL (N:=(x1).length) u9 rfl rfl) ?_;refine p_as (v:=.int .i64 (((x1).length:Int))) rfl ?_;refine p_as (v:=.nilIface) rfl ?_;refine xk hK4 ?_;clear hK4;refine wp_ret ?_;obtain rfl:=osi hF;refine e_2 rfl (ysX (v:=.int .i64 (((x1).length:Int))) rfl) (ysX (v:=.nilIface) rfl) ?_;replace H:HS ⟨S,zcD [.blk b0_ (([pa1]++([pv1]))) 104,.osl (pv1) (x0).length 1 pcs1 prs1 5],w⟩ S1 w3 [.blk b0_ (([pa2]++([v1]))) 104,.osl (v1) (y2).length 1 cs1 rs1 5]:=H;exact⟨_,_,_,_,_,rfl,H,g1,pg4⟩
def zkU(x0:List Bs)(s1:Int×Bs):Option ((Int×Bs)⊕(Bs)):=
 bif decide (s1.1<((x0).length:Int))then(aQ (idx x0 s1.1) fun y1=>aQ (yrD ((y1).length:Int)) fun y2=>aQ (app y2 ([58]:Bs)) fun y3=>aQ (app y3 y1) fun y4=>aQ (ziE s1.2 y4) fun y5=>some (.inl (((w64 (s1.1+1)),y5.2))))else(some (.inr (s1.2)))
def zmH(x0:List Bs):Option (Bs):=
 aQ (aQ (iter (zkU x0) ((0,([]:Bs)))) (fun e=>some (e))) (fun t1=>aQ (chk (decide ((t1).length<=68719476736))) fun _y6=>some (t1))
theorem ymG(hS:Sub S w)(hG:GV S){v0_:Value}{x0:List Bs}(h0_:RdS S v0_ x0){r:Bs}(hF:zmH x0=some r):Calls aA 22 #[v0_] w fun e w'=>e = .returned (str (r))/\Ext w w':=by
 refine enter (n:=21) Tryz.func22 rfl rfl rfl ?_;have H:=HS.start hS;unfold zmH at hF;refine sr ?_;intro K1 hK1;refine p_as (v:=str (([]:Bs))) rfl ?_;refine xk hK1 ?_;clear hK1;refine sr ?_;intro K2 hK2;refine p_ofb (ysS (l:=([Value.pointer none]++([Value.slice none 0 0]))) H tz104 rfl) ?_;clear H;intro w1 b1 H;refine xk hK2 ?_;clear hK2;refine wp_seq_k ?_;intro K3 hK3;refine nameF fun m1 k1=>?_;obtain⟨t1,hE1,hF1⟩:=bnd hF;have J1:∀(a2:Value) (v2:Value) (cs3 rs2:LV) (S3:Mem) (m4:FM) (w5:World),(∀t,has [5,6,7,8,9,10,11,12,13,14,15,16,17,18,19] t=false->look m4 t=look m1 t)->Mem.le S S3->HS ⟨S,[],w⟩ S3 w5 [.osl (v2) (t1).length 1 cs3 rs2 5,.blk b1 (([a2]++([v2]))) 104]->BA b1 a2->RL S3 cs3 t1->K3 (fr 21 m4) w5:=by clear H;intro a2 v2 cs3 rs2 S3 m4 w5 k5 hle3 H g4 g5;replace hG:=GV.mono hG hle3;replace h0_:=RdS.mono h0_ hle3;have q5:look m4 3 = .pointer (some ⟨b1,0,none⟩):=(k5 3 rfl).trans (k1 3);refine hK3 _ _ ?_;refine sr ?_;intro K9 hK9;obtain⟨y6,e6,hF1⟩:=bnd hF1;refine ytO (l:=[.pointer (some ⟨b1,0,none⟩)]) is69 (yjP q5 yuI) ?_;refine(yfP (k1:=1) (k2:=0) H rfl rfl g5 (bC (zC (zpA e6)) (by decide))).mono ?_;clear H;rintro _ w6 ⟨rfl,H⟩;replace H:HS ⟨S,[],w⟩ S3 w6 [.blk b1 (([a2]++([v2]))) 104]:=H;refine p_as (v:=str (t1)) rfl ?_;refine xk hK9 ?_;clear hK9;refine wp_ret ?_;obtain rfl:=osi hF1;refine e_1 rfl (ysX (v:=str (t1)) rfl) ?_;exact⟨rfl,H.toExt⟩
 refine sr ?_;intro K4 hK4;refine p_mv (v:=v0_) (k1 0) ?_;refine zhQ (r_lenR' u22 rfl h0_ H.sub) ?_;refine p_mv (v:=.int .i64 (0)) rfl ?_;refine xk hK4 ?_;clear hK4;refine wp_block ?_;refine nameF fun m2 k2=>?_;obtain⟨out1,hL1,hE2⟩:=bnd hE1;replace H:=H.nilOwn 1 5;have g3:RL S [] ([]:Bs):=RL.nil;replace H:HS ⟨S,[],w⟩ S w1 [.osl (.slice none 0 0) (([]:Bs)).length 1 [] [] 5,.blk b1 (([Value.pointer none]++([Value.slice none 0 0]))) 104]:=H;refine loopI [5,8,9,10,11,12,13,14,15,16,17,18,19] (fun(s1:Int×Bs) (m3:FM) (w2:World)=>∃(S1:Mem) (a1:Value) (v1:Value) (cs1 rs1:LV),look m3 8 = .int .i64 (s1.1)/\Mem.le S S1/\HS ⟨S,[],w⟩ S1 w2 [.osl (v1) (s1.2).length 1 cs1 rs1 5,.blk b1 (([a1]++([v1]))) 104]/\BA b1 a1/\RL S1 cs1 s1.2) hL1 ⟨_,_,_,_,_,(k2 8),(Mem.le_refl _),H,(Or.inl rfl),g3⟩ ?_;clear H;intro k4 s1 m3 w2 k3 hI1 o2 hb1 hh1;obtain⟨S1,a1,v1,cs1,rs1,q1,hle1,H,g1,g2⟩:=hI1;replace hG:=GV.mono hG hle1;replace h0_:=RdS.mono h0_ hle1;have q2:look m3 3 = .pointer (some ⟨b1,0,none⟩):=(k3 3 rfl).trans ((k2 3).trans (k1 3));have q3:look m3 6=v0_:=(k3 6 rfl).trans (k2 6);have q4:look m3 7 = .int .i64 (((x0).length:Int)):=(k3 7 rfl).trans (k2 7);unfold zkU at hb1;refine sr ?_;intro K5 hK5;refine zhQ (r_lssI q1 q4) ?_;refine xk hK5 ?_;clear hK5;refine wp_seq_k ?_;intro K6 hK6;refine yrO (t:=decide (s1.1<((x0).length:Int))) rfl (fun hc1=>?_) (fun hc1=>?_)
 ·replace hb1:=cnd_t hb1 hc1;refine wp_skip ?_;refine xn hK6 ?_;clear hK6;refine wp_seq_k ?_;intro K7 hK7;refine wp_block ?_;refine sr ?_;intro K8 hK8;obtain⟨y1,e1,hb1⟩:=bnd hb1;obtain⟨b2,o3,N1,c1,cs2,hv1,hi1,hc2,hr1⟩:=h0_.get (zwJ e1).2;refine zhQ (yiN (i:=(s1.1:Int).toNat) u22 tsz9 q3 hv1 q1 (zwJ e1).1 hi1) ?_;obtain rfl:=elT hr1;refine zhQ (s_load1 (p:=(o3+(s1.1:Int).toNat*1)) (o:=0) (v:=str (y1)) to9 H.sub rfl hc2 rfl) ?_;refine p_as (v:=str (y1)) rfl ?_;refine xk hK8 ?_;clear hK8;refine wp_region_lit ?_;refine p_mv (v:=str (y1)) rfl ?_;refine zhQ (xaL (N:=(y1).length) u9 rfl rfl) ?_;obtain⟨y2,e2,hb1⟩:=bnd hb1;refine ytO (l:=[.int .i64 (((y1).length:Int))]) is68 rfl ?_;refine(Itoa_c H.sub hG e2).mono ?_;rintro _ w3 ⟨rfl,hx⟩;replace H:=H.ext hx;clear hx;obtain⟨y3,e3,hb1⟩:=bnd hb1;refine zhQ (r_cat (r:=y3) rfl rfl (by have:=(znB e3).1;omega) (znB e3).2) ?_;refine p_mv (v:=str (y1)) rfl ?_;obtain⟨y4,e4,hb1⟩:=bnd hb1;refine zhQ (r_cat (r:=y4) rfl rfl (by have:=(znB e4).1;omega) (znB e4).2) ?_;obtain⟨y5,e5,hb1⟩:=bnd hb1;refine ytO (l:=[.pointer (some ⟨b1,0,none⟩),str (y4)]) is67 (yjP q2 (yjP rfl yuI)) ?_;refine(yaE (H.hand [1,0] rfl) g2 g1 e5).mono ?_;rintro _ w4 ⟨S2,pv1,pcs1,prs1,pa1,rfl,H2,pg1,pg2⟩;obtain⟨H1,hle2⟩:=H.frame [1,0] [] rfl H2;clear H H2;have H:=H1;clear H1;replace hG:=GV.mono hG hle2;replace h0_:=RdS.mono h0_ hle2;replace H:HS ⟨S,[],w⟩ S2 w4 [.blk b1 (([pa1]++([pv1]))) 104,.osl (pv1) (y5.2).length 1 pcs1 prs1 5]:=H;refine wpList_nil ?_;refine b_norm ?_;refine xn hK7 ?_;clear hK7;refine wp_region_lit ?_;refine zhQ (r_addI q1 rfl) ?_;refine p_mv (v:=.int .i64 ((w64 (s1.1+1)))) rfl ?_;refine wpList_nil ?_;refine zvE ?_;replace H:=H.sel [1,0] rfl;replace H:HS ⟨S,[],w⟩ S2 w4 [.osl (pv1) (y5.2).length 1 pcs1 prs1 5,.blk b1 (([pa1]++([pv1]))) 104]:=H;obtain rfl:=osi hb1;exact⟨((w64 (s1.1+1)),y5.2),_,rfl,(by (repeat (refine zzZ rfl ?_));refine ynP k3 rfl ?_;exact kcx),⟨_,_,_,_,_,rfl,(Mem.le_trans hle1 hle2),H,pg2,pg1⟩,hh1⟩
 ·replace hb1:=cnd_f hb1 hc1;refine wp_exit ?_;refine x_exit ?_;refine x_exit ?_;refine b_hit ?_;refine zvE ?_;replace H:HS ⟨S,[],w⟩ S1 w2 [.osl (v1) (s1.2).length 1 cs1 rs1 5,.blk b1 (([a1]++([v1]))) 104]:=H;obtain rfl:=osi hb1;obtain rfl:=osi hh1;obtain rfl:=osi hE2;exact J1 _ _ _ _ _ _ _ (by (repeat (refine zzZ rfl ?_));refine ynP k3 rfl ?_;(repeat (refine zzZ rfl ?_));refine yzF k2 ?_;exact kcx) hle1 H g1 g2
end
end Go.Proofs.YtopanhneegpgcaaGreatDoor
namespace Go.Proofs.YtopanhneegpgcaaGreatDoor.Am
open Go Go.RowKit
class zrD (G:List (Nat×Obj)):Prop where
 gv:∀S,GS G S->GV S
theorem wit{p:Prop}{G:List (Nat×Obj)}[zrD G](h:p):p:=h
section
variable {G:List (Nat×Obj)}[zrD G]
def ygV:PC:=⟨[.h (.i .i64)],[.s],yrD,false⟩
theorem yiQ:PCok aA G 68 ygV:=pc1 (t1:=.i .i64) (rts:=[.s]) rfl rfl (isFn Tryz.func68 (by kernel_rfl) (by kernel_rfl)) fun S _ _ _ hG hS h=>Itoa_c hS (zrD.gv S hG) h
def yjJ:PC:=⟨[.h .s,.h .s],[.s],fun x=>ycE x.1 x.2,false⟩
omit [zrD G] in
theorem yjQ:PCok aA G 164 yjJ:=pc2 (t1:=.s) (t2:=.s) (rts:=[.s]) rfl rfl rfl (isFn Tryz.func164 (by kernel_rfl) (by kernel_rfl)) fun _ _ _ _ _ _ hS h=>Trim_c hS h
def yjU:PC:=⟨[.h .s,.h .s],[.s,.s,.b],fun x=>cutP x.1 x.2,false⟩
theorem yjY:PCok aA G 59 yjU:=pc2 (t1:=.s) (t2:=.s) (rts:=[.s,.s,.b]) rfl rfl rfl (isFn Tryz.func59 (by kernel_rfl) (by kernel_rfl)) fun S _ _ _ _ hG hS h=>Cut_c hS (zrD.gv S hG) h
def yhV:PC:=⟨[.h .s],[.i .i64,.er],yxU,false⟩
omit [zrD G] in
theorem yiS:PCok aA G 165 yhV:=by
 refine⟨isFn Tryz.func165 (by kernel_rfl) (by kernel_rfl),fun S0 w0 us (x:Bs) (y:Int×Bool) hG hS ha hy=>?_⟩;have ha:A2 (VR S0 []) [svOf .s x] us:=ha;cases ha with
 |cons q1 q2=>cases q2;rw[ynY (t:=.s) rfl q1];obtain⟨h1,h2⟩:=Atoi_c hS (r:=y) hy;refine h2.mono fun e w' ⟨he,hx⟩=>⟨hx,_,he,⟨_,rfl,_,_,rfl,(rfl:[_]=[_]),_,rfl,?_⟩,fun h=>by cases h⟩;exact⟨_,rfl,.inl ⟨h1,rfl⟩⟩
end
section
variable {G:List (Nat×Obj)}
def yjR:PC:=⟨[.h (.sl .s)],[.s],zmH,false⟩
theorem yjT[zrD G]:PCok aA G 22 yjR:=by
 refine⟨isFn Tryz.func22 (by kernel_rfl) (by kernel_rfl),fun S0 w0 us (x:List Bs) (y:Bs) hG hS ha hy=>?_⟩;have ha:A2 (VR S0 []) [svOf (.sl .s) x] us:=ha;cases ha with
 |cons q1 q2=>cases q2;rename_i u;have q1:rep (.sl .s) S0 [u] x:=q1;obtain⟨u',hu,hr⟩:=q1;cases hu;exact(ymG hS (zrD.gv S0 hG) hr hy).mono fun e w' ⟨he,hx⟩=>⟨hx,_,he,ylT (l:=[.s]) rfl,fun h=>by cases h⟩
end
section
variable {τ:TE}{P:Program}{G:List (Nat×Obj)}
theorem clone_sc{f:FuncId}{fn:Func}{c:Code}{e:Ty}{T:TypeId}(hm:P.follows .mixedOrders=true)(hτ:TEok P τ)(hf:P.funcs[f]? = some fn)(hfn:IsFn P f)(hb:fn.body=some c)(hl:Nat.ble 1 fn.ntmps=true)(hr:Nat.beq fn.results.toList.length 1=true) (h1:run 0 fn.ntmps τ ⟨[],[],false,[]⟩ [] c ⟨[(0,.nils)],[]⟩ (finS τ fn 0 [(none,⟨[(0,.nils)],[]⟩)])=some ()) (h2:∀xs:List (den e),run 0 fn.ntmps τ ⟨[],[],false,[]⟩ [] c ⟨[(0,.nn e xs)],[]⟩ (finS τ fn 0 [(none,⟨[(0,.own 0)],[.osl e T]⟩)])=aQ (app [] xs) fun r=>some r):
  SCok P G f ⟨⟨[(0,.h (.sl e))],[]⟩,1,[(none,⟨[(0,.own 0)],[.osl e T]⟩)],fun xs=>app [] xs⟩:=by
 refine⟨hfn,fun S0 w0 us E0 L0 (xs:List (den e)) (d:List (den e)) _ hul R hy=>?_⟩;have hy:app [] xs=some d:=hy;have hul:us.length=1:=hul;have hle:us.length<=fn.ntmps:=by rw[hul];exact bJ hl
 obtain⟨u,rfl⟩:∃u,us=[u]:=by
  match us,hul with
  |[u],_=>exact⟨u,rfl⟩
 have hu:VB S0 E0 (.v (.sl e) xs) u:=R.sl 0;obtain⟨v,hv,hrd⟩:=hu;injection hv with hv;subst hv
 have re:∀{x:SV},VR S0 E0 x u->RelV ⟨S0,zcD L0,w0⟩ S0 E0 L0 ⟨[(0,x)],[]⟩ (fun t=>[u].getD t undef) w0:=fun {x} hx=>⟨R.hs,R.lL,R.lE,R.obj,fun t=>by
  cases t with
  |zero=>exact hx|succ t=>trivial⟩
 by_cases hn:∃n c,u = .slice none n c
 ·have hu0:u = .slice none 0 0/\xs=[]:=by
   obtain⟨cs,k1,k2⟩:=hrd;obtain⟨n,c',hn⟩:=hn;rcases k1 with⟨⟨a0,k1⟩,k3,_⟩|⟨b',o,c2,ds,T2,fz,k1,_⟩
   ·rw[hn]at k1;injection k1 with _ e2 e3;exact⟨by rw[hn,e2,e3],aS k3⟩
   ·rw[hn]at k1;cases k1
  obtain⟨rfl,rfl⟩:=hu0;have hd:d=[]:=ysE hy;subst hd;refine(yrR hm hτ (ctok (G:=[]) (pc:=[]) (sc:=[]) (k:=false) trivial trivial _ (fun _ h=>by cases h)) hf hb hle hr (re (x:=.nils) rfl) h1).mono fun e' w' ⟨v,he,S',E',L',σo,V',ho,hS,hP,R',hv0,hn0,hres⟩=>?_;have hσ:σo=⟨[(0,.nils)],[]⟩:=by have:=ho (γ:=St) fun _ σ=>some σ;exact(osi this).symm
  subst hσ;have hl':L'.length=0:=R'.lL;have hE':E'.length=0:=R'.lE;have e1:L'=[]:=aS hl';have e2:E'=[]:=aS hE';subst e1;subst e2;have h0:V' 0 = .slice none 0 0:=R'.sl 0;refine⟨v,he,S',[.osl 0 (.slice none 0 0) (tsz e)],[.osl (.slice none 0 0) 0 (tsz e) [] [] T],⟨[(0,.own 0 0)],[.osl 0 e T []]⟩,V',fun k=>?_,hS,fun k e hk=>absurd hk (Nat.not_lt_zero k),⟨HS.nil R'.hs _ _,rfl,rfl,fun i o h=>?_,fun t=>?_⟩,?_,aZ _,hres⟩
  ·show k (exOf none) _=_;have:(Shp.put (⟨[(0,.own 0)],[.osl e T]⟩:Shp) ([]:List (den e)))=⟨[(0,.own 0 0)],[.osl 0 e T []]⟩:=by
    obtain⟨q,hq⟩:=zhB e;have e0:∀y:den (.sl e),ziJ [.osl e T] [.v (.sl e) y]=[.osl 0 e T y]:=fun y=>by rw[ziJ,hq];rfl
    have e1:ziJ [.osl e T] [.v (.sl e) ([]:List (den e))]=[.osl 0 e T []]:=e0 _;exact congrArg (fun hp=>(⟨[(0,.own 0 0)],hp⟩:St)) e1
   rw[this];rfl
  ·cases i with
   |zero=>cases h;exact⟨_,_,rfl,rfl,.slice none 0 0,.slice none 0 0,[],[],rfl,rfl,rfl,.inl rfl⟩
   |succ i=>cases h
  ·cases t with
   |zero=>exact VR.ofC (show VC S' _ (.own 0 0) (V' 0) by rw[h0];exact⟨rfl,_,rfl,fun r v s he=>by cases he;exact⟨aI 0,fun _=>rfl⟩⟩)|succ t=>trivial
  ·intro i ver e' T' xs h;cases i with
   |zero=>cases h;rfl
   |succ i=>cases h
 ·exact(yrR hm hτ (ctok (G:=[]) (pc:=[]) (sc:=[]) (k:=false) trivial trivial _ (fun _ h=>by cases h)) hf hb hle hr (re (x:=.nn e xs) ⟨hrd,fun n c h=>hn ⟨n,c,h⟩⟩) ((h2 xs).trans (by rw[hy];rfl))).mono fun _ _ h=>h
def finC(τ:TE)(f:Func)(e:Ty)(ex:Ex)(σ:St):Option (List (den e)):=match ex with
 |.exit _=>none|_=>match yeS τ σ f.results.toList with
  |some [.cl e' xs]=>match tyEq e' e with
   |some ⟨h⟩=>some (zmW (by rw[h]:Ty.sl e'=Ty.sl e) (show den (.sl e')from xs))|none=>none
  |_=>none
theorem ysZ{f:FuncId}{fn:Func}{c:Code}{e:Ty}(hm:P.follows .mixedOrders=true)(hτ:TEok P τ)(hf:P.funcs[f]? = some fn)(hfn:IsFn P f)(hb:fn.body=some c)(hl:Nat.ble 1 fn.ntmps=true) (h1:∀xs:List (den e),run 0 fn.ntmps τ ⟨[],[],false,[]⟩ [] c ⟨[(0,.v (.sl e) xs)],[]⟩ (finC τ fn e)=aQ (chk (decide ((xs.length:Int)=(xs.length:Int)))) fun _=>aQ (subH xs (xs.length:Int)) fun r=>some r):
  PCok P G f ⟨[.h (.sl e)],[.sl e],fun xs=>some xs,true⟩:=by
 refine⟨hfn,fun S0 w0 us (xs:List (den e)) (y:List (den e)) _ hS ha hy=>?_⟩;have hxy:xs=y:=osi hy;subst hxy;have ha:A2 (VR S0 []) [SV.v (.sl e) xs] us:=ha;have h2:run 0 fn.ntmps τ ⟨[],[],false,[]⟩ [] c ⟨[(0,.v (.sl e) xs)],[]⟩ (finC τ fn e)=some xs:=by
  rw[h1 xs];have h3:subH xs (xs.length:Int)=some xs:=by unfold subH;simp
  simp[chk,h3]
 have hul:us.length=1:=by rw[<-ha.len];rfl
 refine enter hf hb rfl (by rw[hul];exact hl) ?_;have R0:Rel fn.ntmps ⟨S0,[],w0⟩ S0 [] [] ⟨argS 0 [SV.v (.sl e) xs],[]⟩ (argm us 0) w0:=by
  refine⟨HS.start hS,rfl,rfl,fun i o h=>by simp at h,fun t=>?_⟩;show VR S0 [] (lkS (argS 0 [SV.v (.sl e) xs]) t) (bif cV t fn.ntmps then look (argm us 0) t else undef);cases ht:cV t fn.ntmps with
  |true=>exact xcC 0 t ha|false=>rw[zpD]at ht;have h1:=of_decide_eq_false ht;have h2:=bJ hl;rw[yhI (by simp;omega)];trivial
 refine zvY hm hτ (ctok (G:=[]) (pc:=[]) (sc:=[]) (k:=false) trivial trivial _ (fun _ h=>by cases h)) c R0 (finC τ fn e) xs _ h2 fun ex σ' S' E' L' m' w' h1 _ _ _ R1=>?_
 have key:∀(_:(match yeS τ σ' fn.results.toList with
   |some [.cl e' xs]=>match tyEq e' e with
    |some ⟨h⟩=>some (zmW (by rw[h]:Ty.sl e'=Ty.sl e) (show den (.sl e')from xs))|none=>none
   |_=>none)=some xs),(fr fn.ntmps m').defers=[]/\∃v,(results fn (fr fn.ntmps m').tmps).run P w' = .ok v w'/\Ext w0 w'/\repR (gr S0 w0 w') [.sl e] v xs/\∃a n,v = .slice a n n:=fun h1=>by
  split at h1
  ·rename_i e' ys hl1;split at h1
   ·rename_i hh _;subst hh;have hys:ys=xs:=osi h1;subst hys;obtain⟨vs,h3,h4⟩:=ygL (P:=P) hτ R1 hl1;obtain⟨v,rfl,h5⟩:=h3.one;obtain⟨h5,a,h6⟩:=(show VB S' E' (.cl e' ys) v from h5);refine⟨rfl,v,?_,R1.hs.toExt,⟨v,rfl,RdS.mono h5 R1.hs.gr⟩,a,_,h6⟩;rw[zwC,Array.mapM_eq_mapM_toList];simp only[Sem.run_bind,Sem.run_map,h4,Result.andThen_ok,Sem.run_pure];rfl
   ·cases h1
  ·cases h1
 cases ex with
 |normal=>obtain⟨h2,v,h3,h4,h5,h6⟩:=key h1;exact⟨h2,v,h3,h4,v,rfl,h5,fun _=>h6⟩
 |ret=>obtain⟨h2,v,h3,h4,h5,h6⟩:=key h1;exact⟨h2,v,h3,h4,v,rfl,h5,fun _=>h6⟩
 |exit i=>cases h1
end
end Go.Proofs.YtopanhneegpgcaaGreatDoor.Am
namespace Go.Proofs.YtopanhneegpgcaaGreatDoor.Am
open Go Go.RowKit Go.Maps Go.Sort
open Go.WideElems (Fit rd rg)
def zmM:List Bs->Bool
 |x::y::l=>Op.bytesLess x y&&zmM (y::l)|_=>true
def yiF{α:Type}(es:List (Bs×α)):Bool:=decide (es.length<=1048576)&&(es.all (fun p=>decide (p.1.length<=68719476736))&&zmM (es.map (·.1)))
def zqR{α:Type}(es:List (Bs×α)):Option (List Bs×List (Bs×α)):=bif yiF es then some (es.map (·.1),es)else none
theorem ynI:∀{l:List Bs},zmM l=true->l.Pairwise fun x y=>x<y
 |[],_=>.nil|[x],_=>bZ _ _|x::y::l,h=>by
  unfold zmM at h;rw[aF,bytesLess_eq,zD]at h;have ih:=ynI (l:=y::l) h.2;refine aW.2 ⟨fun z hz=>?_,ih⟩;rcases aK.1 hz with rfl|hz
  ·exact h.1
  ·exact List.lt_trans h.1 ((aW.1 ih).1 z hz)
theorem yxI{l:List Bs}(h:zmM l=true):l.mergeSort (fun x y=>decide (x<=y))=l:=by refine List.mergeSort_of_pairwise ((ynI h).imp fun {a b} hab=>?_);simp only[zD];exact List.le_of_lt hab
def anyV:Value->Option (DataW Unit×List MemPlace):=fun _=>some (.nil,[])
section
variable {P:Program}{S:Mem}
theorem yvQ{V:Ty}{kT:TypeId}(hk:P.underlying kT=some .string):∀{l:List (Bs×den V)} {ents:List MapEntry},A2 (fun(p:Bs×den V) en=>rep1 .s S en.key p.1/\rep1 V S en.val p.2) l ents->(∀p∈l,p.1.length<=68719476736)->ents.map (·.key)=l.map (fun p=>str p.1)/\(∀x∈ents,∃y,Go.WideElems.rd P kT anyV x=some y)/\(ents.map (Go.WideElems.rg P kT anyV)).map (fun p=>strOf p.1)=l.map (·.1)
 |_,_,.nil,_=>⟨rfl,fun _ h=>(by cases h),rfl⟩|p::l,en::ents,.cons a r,hs=>by
  obtain⟨i1,i2,i3⟩:=yvQ hk r fun q hq=>hs q (aL _ hq);have hkey:en.key=str p.1:=by have h:[en.key]=[str p.1]:=a.1;injection h
  have hp:=hs p aM;have hr:Go.WideElems.rd P kT anyV en=some (.string p.1,.nil):=by unfold Go.WideElems.rd;rw[hkey];have:=Go.WideMaps.keyOf_string_mk (P:=P) (k:=kT) hk (s:=⟨p.1.toArray⟩) (by show p.1.toArray.size<=_;simp[maxLen];omega);show(keyOf P kT (.string ⟨p.1.toArray⟩)).bind _=_;rw[this];rfl
  refine⟨by rw[bF,bF,i1,hkey],fun x hx=>?_,?_⟩
  ·rcases aK.1 hx with rfl|hx
   ·exact⟨_,hr⟩
   ·exact i2 x hx
  ·rw[bF,bF,bF,i3];congr 1;unfold Go.WideElems.rg;rw[hr];rfl
theorem owns_any{V:Ty}{kT:TypeId}{w:World}{b ck:Nat}{es:List (Bs×den V)}{ents:List MapEntry}(hk:P.underlying kT=some .string)(hm:MR S .s V es ents)(hb:∀en∈ents,en.born<ck)(hh:w.heap[b]? = some (.map ents.toArray ck))(ho:yiF es=true):∃D0:DataW Unit,w.ownsMap P kT anyV b es.length D0/\Maps.size D0=es.length/\(strKeys D0).Perm (es.map (·.1)):=by
 obtain⟨(l:List (Bs×den V)),(hl:l.Perm es),hA⟩:=hm.perm;unfold yiF at ho;simp only[aF,zD,aY]at ho;obtain⟨h1,h2,h3⟩:=ho;have hlen:ents.length=es.length:=by rw[<-hA.len];exact hl.length_eq
 obtain⟨k1,k2,k3⟩:=yvQ hk hA fun p hp=>h2 p (hl.mem_iff.1 hp);have hnd:(es.map (·.1)).Nodup:=(ynI h3).imp fun {a b} hab e=>by subst e;exact List.lt_irrefl _ hab
 refine⟨_,⟨ents.toArray,ck,hh,⟨by simp[maxLen];omega,⟨by simpa using hb,by simpa using hm.nd,?_⟩,by simpa using k2⟩,by simp[hlen],rfl⟩,?_,?_⟩
 ·have e1:l.map (fun p=>str p.1)=(l.map (·.1)).map str:=by rw[List.map_map];rfl
  simp only[];rw[k1,e1];refine List.Pairwise.map _ (fun a b hab e=>hab (ybR e)) ((hl.map _).nodup_iff.2 hnd)
 ·show((ents.map (Go.WideElems.rg P kT anyV)).foldr DataW.insert []).length=_;rw[length_sorted,aE,hlen]
 ·show(((ents.map (Go.WideElems.rg P kT anyV)).foldr DataW.insert []).map fun p=>strOf p.1).Perm _;refine((Go.WideShapes.sorted_perm _).map _).trans ?_;rw[k3];exact hl.map _
theorem yhS:∀(l:List Bs),@RL (den .s) (rpD .s) S (l.map encStr) l
 |[]=>rfl|x::l=>⟨[str x],l.map encStr,rfl,(rfl:[_]=[_]),yhS l⟩
theorem row_rd{w':World}{base n:Nat}{sT:TypeId}{v:Value}{ks:List Bs}(hn:ks.length=n)(hrow:w'.ownsRow base sT 1 v n (ks.map encStr))(hm:∀b,base<=b->S b=w'.heap[b]?):@RdS (den .s) (rpD .s) S v ks:=by
 subst hn;refine⟨ks.map encStr,?_,yhS ks⟩;obtain⟨g1,g2⟩:=hrow;show SlS S v ks.length 1 (ks.map encStr);rcases g2 with⟨rfl,g3⟩|⟨gb,cap,cur,rfl,g3,g4,g5,g6,g7,g8⟩
 ·have:ks=[]:=aS g3;subst this;exact .inl ⟨⟨_,rfl⟩,rfl,rfl⟩
 ·refine .inr ⟨gb,0,cap,cur.toList,sT,(0,0),rfl,g5,?_,?_,?_⟩
  ·rw[hm gb g3,g4]
  ·have:cur.toList.length=cap*1:=by simpa using g7
   rw[this];omega
  ·rw[zbB,List.drop_zero];exact g8
theorem yaC{G:List (Nat×Obj)}{f g:FuncId}{mT kT sT:TypeId}{V:Ty}(hfn:IsFn P f)(hk:P.underlying kT=some .string) (hS:∀(Bm b nn:Nat) (D0:DataW Unit) (w:World),Bm<w.heap.size->w.cell? ⟨Bm,0,none⟩=some (.map (some b))->w.ownsMap P kT anyV b nn D0->Maps.size D0<=maxLen->Maps.size D0*16<=140737488355328 ->
   Calls P f #[.func (.func g) #[] #[.pointer (some ⟨Bm,0,none⟩)]] w fun e w'=>∃(v:Value) (ss:List Bs),e = .returned v/\ss.Perm (strKeys D0)/\w'.ownsRow w.heap.size sT 1 v ss.length ((ss.mergeSort (fun x y=>decide (x<=y))).map encStr)/\(v = .slice none 0 0↔ss=[])/\Below w.heap.size w w'):
  SCok P G f ⟨⟨[(0,.fn g [] [.ptr 0 0])],[.blk mT [.mpr 1],.mp true .s V]⟩,1,[(none,⟨[(0,.h (.sl .s))],[.blk mT [.mpr 1],.mp true .s V]⟩)],fun(es:List (Bs×den V))=>zqR es⟩:=by
 refine⟨hfn,fun S0 w0 us E0 L0 (es:List (Bs×den V)) d _ hul R hy=>?_⟩;have hy:(bif yiF es then some (es.map (·.1),es)else none)=some d:=hy;obtain⟨hok,hy⟩:=zaG hy;have hd:d=(es.map (·.1),es):=(osi hy).symm;subst hd;have hul:us.length=1:=hul;obtain⟨u,rfl⟩:∃u,us=[u]:=by
  match us,hul with
  |[u],_=>exact⟨u,rfl⟩
 obtain⟨q,hq⟩:=zhB (.mp .s V);have hput:(Shp.put (⟨[(0,.fn g [] [.ptr 0 0])],[.blk mT [.mpr 1],.mp true .s V]⟩:Shp) es)=⟨[(0,.fn g [] [.ptr 0 0])],[.blk mT [.mpr 1],.mp 0 .s V es]⟩:=by
  have e0:∀y:den (.mp .s V),ziJ [.blk mT [.mpr 1],.mp true .s V] [.v (.mp .s V) y]=[.blk mT [.mpr 1],.mp 0 .s V y]:=fun y=>by simp only[ziJ,yjG,Sh.putC,Sh.putB,hq];rfl
  exact congrArg (fun hp=>(⟨[(0,.fn g [] [.ptr 0 0])],hp⟩:St)) (e0 es)
 have hput2:(Shp.put (⟨[(0,.h (.sl .s))],[.blk mT [.mpr 1],.mp true .s V]⟩:Shp) ((es.map (·.1),es):List Bs×List (Bs×den V)))=⟨[(0,.v (.sl .s) (es.map (·.1)))],[.blk mT [.mpr 1],.mp 0 .s V es]⟩:=by
  have e0:∀y:den (.mp .s V),ziJ [.blk mT [.mpr 1],.mp true .s V] [.v (.mp .s V) y]=[.blk mT [.mpr 1],.mp 0 .s V y]:=fun y=>by simp only[ziJ,yjG,Sh.putC,Sh.putB,hq];rfl
  exact congrArg (fun hp=>(⟨[(0,.v (.sl .s) (es.map (·.1)))],hp⟩:St)) (e0 es)
 have R:RelV ⟨S0,zcD L0,w0⟩ S0 E0 L0 ⟨[(0,.fn g [] [.ptr 0 0])],[.blk mT [.mpr 1],.mp 0 .s V es]⟩ (fun t=>[u].getD t undef) w0:=by rw[<-hput];exact R
 obtain⟨r0,e0,a1,a2,b0,cs,rfl,rfl,a3⟩:=R.objN (i:=0) rfl;obtain⟨c,rfl,a4⟩:=a3.one;obtain⟨_,e1,a5,a6⟩:=(show VB S0 E0 (.mpr 1) c from a4);obtain⟨r1,e1',c1,c2,b,ents,ck,rfl,rfl,c3,c4⟩:=R.objN (i:=1) rfl;rw[c2]at a5;cases a5;have hc:=a6 _ _ _ _ rfl;subst hc;have hh0:w0.heap[b0]? = some (.cells [Value.map (some b)].toArray mT (0,0)):=R.hs.own 0 _ a1;have hh1:w0.heap[b]? = some (.map ents.toArray ck):=R.hs.own 1 _ c1;have hu:u = .func (.func g) #[] #[.pointer (some ⟨b0,0,none⟩)]:=by obtain⟨xs,ys,hu,h1,h2⟩:=(show VC S0 E0 (.fn g [] [.ptr 0 0]) u from R.sl 0);cases h1;obtain⟨y,rfl,h3⟩:=h2.one;obtain⟨b1,hy,e2,h4,h5⟩:=(show VB S0 E0 (.ptr 0 0) y from h3);rw[a2]at h4;cases h4;cases h5 _ rfl;rw[hu,hy]
 subst hu;obtain⟨D0,d1,d2,d3⟩:=owns_any (S:=S0) hk c3 c4 hh1 hok;have hlen:es.length<=1048576:=by unfold yiF at hok;simp only[aF,zD]at hok;exact hok.1
 have hrise:zmM (es.map (·.1))=true:=by unfold yiF at hok;simp only[aF]at hok;exact hok.2.2
 have hcell:w0.cell? ⟨b0,0,none⟩=some (.map (some b)):=by simp[World.cell?,hh0]
 refine(hS b0 b es.length D0 w0 (aP.1 hh0).1 hcell d1 (by rw[d2];simp[maxLen];omega) (by rw[d2];omega)).mono fun e w' ⟨v,ss,he,hp,hrow,hnil,hx⟩=>?_;have hx:Ext w0 w':=hx;have hss:ss.mergeSort (fun x y=>decide (x<=y))=es.map (·.1):=by rw[<-yxI hrise];exact mergeSort_of_perm (hp.trans d3)
 have hsl:ss.length=es.length:=by rw[hp.length_eq,d3.length_eq,aE]
 rw[hss,hsl]at hrow;have R':=R.call hx;have hv:VB (gr S0 w0 w') E0 (.v (.sl .s) (es.map (·.1))) v:=
  ⟨v,rfl,row_rd (aE _) hrow fun b hb=>by unfold Go.Proofs.YtopanhneegpgcaaGreatDoor.gr;rw[zH (by omega)]⟩
 refine⟨v,he,gr S0 w0 w',E0,L0,⟨[(0,.v (.sl .s) (es.map (·.1)))],[.blk mT [.mpr 1],.mp 0 .s V es]⟩,fun _=>v,fun k=>?_,ypO R.hs.sub,Pin.refl _ _,⟨R'.hs,R'.lL,R'.lE,R'.obj,fun t=>?_⟩,?_,aI _,rfl⟩
 ·show k (exOf none) ((Shp.put _ _).app [])=_;rw[hput2];rfl
 ·cases t with
  |zero=>exact VR.ofC (show VC _ _ (.v (.sl .s) (es.map (·.1))) v from hv)|succ t=>trivial
 ·intro i ver e' T' xs h;cases i with
  |zero=>cases h
  |succ i=>
   cases i with
   |zero=>cases h
   |succ i=>cases h
end
end Go.Proofs.YtopanhneegpgcaaGreatDoor.Am
namespace Go.Proofs.YtopanhneegpgcaaGreatDoor.Am
open Go Go.RowKit Go.Sort
section
variable {P:Program}{B:Bas}{S0:Mem}{w0 w w':World}{E0:List EI}{L0:List Res}{V:Nat->Value}{ss:List (Nat×SV)}{e:Ty}{T:TypeId}{xs ys:List (den e)}
theorem ymQ(R:RelV ⟨S0,zcD L0,w0⟩ S0 E0 L0 ⟨(0,.own 0 0)::ss,[.osl 0 e T xs]⟩ V w0):∃v cs rs,L0=[.osl v xs.length (tsz e) cs rs T]/\E0=[.osl 0 (V 0) (tsz e)]/\RL S0 cs xs/\Same S0 v (V 0) xs.length/\(V 0).oneCell'=true /\((xs=[]/\∃a c,V 0 = .slice a 0 c)∨∃b c fz,V 0=sl b 0 xs.length c/\v=sl b 0 xs.length c/\xs.length<=c/\cs.length=xs.length*tsz e/\c*tsz e<=(cs++rs).length/\w0.heap[b]? = some (.cells (cs++rs).toArray T fz)/\okfz T fz (cs++rs).length):=by
 obtain⟨r0,ee0,g1,g2,v,v',cs,rs,rfl,rfl,hrl,hsm⟩:=R.obj 0 _ rfl;have hL:L0.length=1:=R.lL;have hE:E0.length=1:=R.lE;obtain⟨h7,e1',h8,h9⟩:=(show VB S0 E0 (.own 0 0) (V 0)from R.sl 0);rw[g2]at h8;cases h8;have hu:V 0=v':=(h9 _ _ _ rfl).2 rfl;subst hu;have hL1:L0=[.osl v xs.length (tsz e) cs rs T]:=by
  match L0,hL,g1 with
  |[r],_,g1=>simp at g1;rw[g1]
 have hE1:E0=[.osl 0 (V 0) (tsz e)]:=by
  match E0,hE,g2 with
  |[r],_,g2=>simp at g2;rw[g2]
 refine⟨v,cs,rs,hL1,hE1,hrl,hsm,h7,?_⟩;have hk:lkR L0 0=some (.osl v xs.length (tsz e) cs rs T):=by rw[zbZ];exact g1
 rcases R.hs.own 0 _ hk with⟨hv,hn,_,_⟩|⟨b,c,fz,hv,h1,h2,h3,h4,h5⟩
 ·left;refine⟨aS hn,?_⟩;rcases hsm with h|⟨_,_,_,a,h⟩
  ·exact⟨none,0,by rw[h,hv]⟩
  ·exact⟨a,0,h⟩
 ·rcases hsm with h|⟨h,_⟩
  ·by_cases hx:xs=[]
   ·left;refine⟨hx,some ⟨b,0,none⟩,c,?_⟩;rw[h,hv,hx];rfl
   ·right;exact⟨b,c,fz,by rw[h,hv],hv,h1,h2,h3,h4,h5⟩
  ·rw[hv]at h;cases h
theorem ygF{v u:Value}{cs rs:LV}(H:HS ⟨S0,zcD L0,w0⟩ S0 w' [.osl v ys.length (tsz e) cs rs T])(hE:E0=[.osl 0 u (tsz e)])(hrl:RL S0 cs ys)(hsm:Same S0 v u ys.length):∃S' E' L' σo V',(∀{γ:Type} (k:Ex->St->Option γ),out [] [(none,(⟨[],[.osl e T]⟩:Shp))] (ys:List (den e)) k=k .normal σo)/\Mem.le S0 S'/\Pin 1 E0 E'/\RelV ⟨S0,zcD L0,w0⟩ S' E' L' σo V' w'/\Ver0 σo.hp/\1<=σo.hp.length/\Value.tuple #[]=zzR (zyD V' 0 0):=by
 obtain⟨q,hq⟩:=zhB e;have e0:∀y:den (.sl e),ziJ [.osl e T] [.v (.sl e) y]=[.osl 0 e T y]:=fun y=>by rw[ziJ,hq];rfl
 refine⟨S0,E0,_,⟨[],[.osl 0 e T ys]⟩,fun _=>undef,fun k=>?_,Mem.le_refl _,Pin.refl _ _,⟨H,rfl,by rw[hE];rfl,fun i o h=>?_,fun t=>trivial⟩,?_,aI _,rfl⟩
 ·show k (exOf none) ((Shp.put _ _).app [])=_;rw[show(Shp.put (⟨[],[.osl e T]⟩:Shp) ys)=⟨[],[.osl 0 e T ys]⟩from congrArg (fun hp=>(⟨[],hp⟩:St)) (e0 _)];rfl
 ·cases i with
  |zero=>cases h;exact⟨_,_,rfl,by rw[hE];rfl,v,u,cs,rs,rfl,rfl,hrl,hsm⟩
  |succ i=>simp at h
 ·intro i ver e' T' xs' hi;cases i with
  |zero=>cases hi;rfl
  |succ i=>simp at hi
theorem yqC{v u u2:Value}{cs rs:LV}(H:HS ⟨S0,zcD L0,w0⟩ S0 w' [.osl v ys.length (tsz e) cs rs T])(hE:E0=[.osl 0 u (tsz e)])(hrl:RL S0 cs ys)(hsm:Same S0 v u2 ys.length)(h1:u2.oneCell'=true):∃S' E' L' σo V',(∀{γ:Type} (k:Ex->St->Option γ),out [] [(none,(⟨[(0,.h (.sl e))],[.dead]⟩:Shp))] (ys:List (den e)) k=k .normal σo)/\Mem.le S0 S'/\Pin 1 E0 E'/\RelV ⟨S0,zcD L0,w0⟩ S' E' L' σo V' w'/\Ver0 σo.hp/\1<=σo.hp.length/\u2=zzR (zyD V' 0 1):=by
 have R1:RelV ⟨S0,zcD L0,w0⟩ S0 [.osl 1 u2 (tsz e)] [.osl v ys.length (tsz e) cs rs T] ⟨[(0,.own 0 1)],[.osl 1 e T ys]⟩ (fun _=>u2) w':=by
  refine⟨H,rfl,rfl,fun i o h=>?_,fun t=>?_⟩
  ·cases i with
   |zero=>cases h;exact⟨_,_,rfl,rfl,v,u2,cs,rs,rfl,rfl,hrl,hsm⟩
   |succ i=>simp at h
  ·cases t with
   |zero=>exact VR.ofC (show VC S0 _ (.own 0 1) u2 from⟨h1,_,rfl,fun r v' s he=>by cases he;exact⟨aI 1,fun _=>rfl⟩⟩)|succ t=>trivial
 obtain⟨S',E',L',hS,hE',R2⟩:=ytH R1 0;refine⟨S',E',L',⟨[(0,.v (.sl e) ys)],[.dead]⟩,fun _=>u2,fun k=>rfl,hS,fun k a hk ha=>?_,R2,?_,aI _,rfl⟩
 ·obtain rfl:k=0:=by omega
  rw[hE]at ha;cases ha;obtain⟨a',h2,h3⟩:=hE' 0 _ rfl;refine⟨a',h2,.inl ⟨_,_,_,rfl,?_⟩⟩;rcases h3 with rfl|rfl|⟨r',v',rfl,h4⟩
  ·exact .inr ⟨1,u2,rfl,fun h=>by cases h⟩
  ·exact .inl rfl
  ·exact .inr ⟨r',v',rfl,fun h=>by omega⟩
 ·intro i ver e' T' xs' hi;cases i with
  |zero=>cases hi
  |succ i=>simp at hi
theorem HS.inplace{b n c k sz:Nat}{fz:Nat×Nat}{cs rs cs' rs':LV}(H:HS B S0 w [.osl (sl b 0 n c) n sz cs rs T])(_hh:w.heap[b]? = some (.cells (cs++rs).toArray T fz))(hfz:okfz T fz (cs++rs).length)(hcap:c*sz<=(cs++rs).length)(hn:n<=c)(hk:k<=n)(hl:cs'.length=k*sz)(hlen:(cs'++rs').length=(cs++rs).length) (hos:w'.os=w.os) (htp:w'.tape=w.tape) (hop:w'.output=w.output) (hsz:w.heap.size<=w'.heap.size) (hb:∀i,i<w.heap.size->i≠b->w'.heap[i]? = w.heap[i]?) (hnew:w'.heap[b]? = some (.cells (cs'++rs').toArray T fz)):HS B S0 w' [.osl (sl b 0 k c) k sz cs' rs' T]:=
 HS.upd H (k:=0) (r:=.osl (sl b 0 n c) n sz cs rs T) (r':=.osl (sl b 0 k c) k sz cs' rs' T) rfl hsz hos htp hop (fun i hi hne=>hb i hi fun e=>hne (by rw[e];rfl)) (.inr ⟨b,c,fz,rfl,by omega,hl,by rw[hlen];exact hcap,hnew,by rw[hlen];exact hfz⟩) fun b' hb'=>.inl hb'
theorem yaL{α:Type}[Inhabited α]{enc:α->Value}{ds:List α}{cs rs:LV}{b q:Nat}{fz:Nat×Nat}{os:Array Obj}(hh:w.heap[b]? = some (.cells (cs++rs).toArray T fz))(hl:cs.length=ds.length):(grow (putRow enc (Go.Sort.ahead w q) b 0 ds.toArray) os).heap[b]? = some (.cells (ds.map enc++rs).toArray T fz)/\(∀i,i<w.heap.size->i≠b->(grow (putRow enc (Go.Sort.ahead w q) b 0 ds.toArray) os).heap[i]? = w.heap[i]?)/\w.heap.size<=(grow (putRow enc (Go.Sort.ahead w q) b 0 ds.toArray) os).heap.size:=by
 have hb:b<w.heap.size:=(aP.1 hh).1;have hs:(putRow enc (Go.Sort.ahead w q) b 0 ds.toArray).heap.size=w.heap.size:=by simp[putRow,mapBlock,Go.Sort.ahead]
 refine⟨?_,fun i hi hne=>?_,?_⟩
 ·show((putRow enc (Go.Sort.ahead w q) b 0 ds.toArray).heap++os)[b]? = _;rw[gB (by rw[hs];exact hb)];have:(putRow enc (Go.Sort.ahead w q) b 0 ds.toArray).heap[b]? = some (onCells (putCells enc 0 ds.toArray) (.cells (cs++rs).toArray T fz)):=by show(w.heap.modify b _)[b]? = _;rw[fU,zI rfl,hh];rfl
  rw[this];show some (Obj.cells (putCells enc 0 ds.toArray (cs++rs).toArray) T fz)=_;congr 2;apply Array.ext_getElem?;intro j;unfold putCells;rw[Array.getElem?_mapIdx];simp only[List.getElem?_toArray,List.size_toArray,aZ,true_and,aV,Nat.sub_zero];by_cases hj:j<ds.length
  ·rw[aH (by omega),aH (by rw[aE];exact hj),List.getElem?_map,aO hj,aO (show j<cs.length by omega)];simp[hj]
  ·rw[aJ (by omega),aJ (by rw[aE];omega),aE,hl];cases rs[j-ds.length]? with
   |none=>rfl|some x=>simp[hj]
 ·show((putRow enc (Go.Sort.ahead w q) b 0 ds.toArray).heap++os)[i]? = _;rw[gB (by rw[hs];exact hi)];show(w.heap.modify b _)[i]? = _;rw[fU,zH (Ne.symm hne)]
 ·show _<=((putRow enc (Go.Sort.ahead w q) b 0 ds.toArray).heap++os).size;rw[iH,hs];omega
theorem holds_of{α:Type}[Inhabited α]{enc:α->Value}{ds:List α}{rs:LV}{b:Nat}{fz:Nat×Nat}(hh:w.heap[b]? = some (.cells (ds.map enc++rs).toArray T fz))(hfz:okfz T fz (ds.map enc++rs).length):Go.Sort.Holds enc w b 0 ds.toArray:=fun j hj=>by
 have hj:j<ds.length:=by simpa using hj
 constructor
 ·rw[aV];simp only[World.cell?,hh];simp[hj,aH]
 ·unfold World.frozen?;simp only[hh];rw[aC,aE]at hfz;rcases hfz with h|⟨h,_⟩
  ·rw[h];simp
  ·have:¬fz.1<=0+j:=by omega
   simp[];omega
theorem yiH:∀{l:List Bs} {cs:LV},@RL (den .s) (rpD .s) S0 cs l->cs=l.map encStr
 |[],_,h=>h|x::l,_,h=>by obtain⟨c,d,h1,h2,h3⟩:=h;have h2:c=[str x]:=h2;rw[h1,h2,yiH h3];rfl
end
section
variable {P:Program}{G:List (Nat×Obj)}
def insO{α:Type}(le:α->α->Bool)(x:α):List α->List α
 |[]=>[x]|y::l=>bif le x y then x::y::l else y::insO le x l
def yxX{α:Type}(le:α->α->Bool):List α->List α
 |[]=>[]|x::l=>insO le x (yxX le l)
theorem yhQ{α:Type}(le:α->α->Bool)(x:α):∀l:List α,(insO le x l).Perm (x::l)
 |[]=>.refl _|y::l=>by
  unfold insO;cases le x y with
  |true=>exact .refl _|false=>exact((yhQ le x l).cons y).trans (.swap x y l)
theorem zeY{α:Type}(le:α->α->Bool):∀l:List α,(yxX le l).Perm l
 |[]=>.refl _|x::l=>(yhQ le x _).trans ((zeY le l).cons x)
theorem yiR{α:Type}{le:α->α->Bool}(ht:∀a b,le a b=true∨le b a=true)(htr:∀a b c,le a b=true->le b c=true->le a c=true)(x:α):∀{l:List α},l.Pairwise (fun a b=>le a b=true)->(insO le x l).Pairwise fun a b=>le a b=true
 |[],_=>bZ _ _|y::l,h=>by
  unfold insO;have h':=aW.1 h;cases hb:le x y with
  |true=>
   refine aW.2 ⟨fun z hz=>?_,h⟩;rcases aK.1 hz with rfl|hz
   ·exact hb
   ·exact htr _ _ _ hb (h'.1 z hz)
  |false=>
   have hyx:le y x=true:=(ht x y).resolve_left (by rw[hb];simp);refine aW.2 ⟨fun z hz=>?_,yiR ht htr x h'.2⟩;rcases aK.1 ((yhQ le x l).mem_iff.1 hz)with rfl|hz
   ·exact hyx
   ·exact h'.1 z hz
theorem ziF{α:Type}{le:α->α->Bool}(ht:∀a b,le a b=true∨le b a=true)(htr:∀a b c,le a b=true->le b c=true->le a c=true):∀l:List α,(yxX le l).Pairwise fun a b=>le a b=true
 |[]=>.nil|x::l=>yiR ht htr x (ziF ht htr l)
theorem ztM{α:Type}{R:α->α->Prop}:∀{l m:List α},(∀a∈l,∀b∈l,R a b->R b a->a=b)->l.Perm m->l.Pairwise R->m.Pairwise R->l=m
 |[],m,_,hp,_,_=>(List.nil_perm.1 hp).symm|a::l,[],_,hp,_,_=>absurd hp.length_eq (by simp)|a::l,b::m,ha,hp,h1,h2=>by
  have h1':=aW.1 h1;have h2':=aW.1 h2;have hab:a=b:=by
   rcases aK.1 (hp.mem_iff.1 aM)with h|h
   ·exact h
   ·have hbl:b∈a::l:=hp.mem_iff.2 aM;rcases aK.1 hbl with h3|h3
    ·exact h3.symm
    ·exact ha a aM b hbl (h1'.1 b h3) (h2'.1 a h)
  subst hab;rw[ztM (fun x hx y hy=>ha x (aL _ hx) y (aL _ hy)) hp.cons_inv h1'.2 h2'.2]
def leS(x y:Bs):Bool:=!(Op.bytesLess y x)
theorem zzP{x y:Bs}:leS x y=true↔x<=y:=by unfold leS;rw[bytesLess_eq,Bool.not_eq_true',decide_eq_false_iff_not];exact List.not_lt
theorem ycK(a b:Bs):leS a b=true∨leS b a=true:=by rw[zzP,zzP];exact List.le_total a b
theorem ydG(a b c:Bs)(h:leS a b=true)(k:leS b c=true):leS a c=true:=by rw[zzP]at *;exact iI h k
def zyZ(xs:List Bs):List Bs:=yxX leS xs
theorem sortS_eq(xs:List Bs):(xs.mergeSort fun x y=>decide (x<=y))=zyZ xs:=by
 have h1:(xs.mergeSort fun x y=>decide (x<=y)).Pairwise fun x y=>x<=y:=by
  refine(List.pairwise_mergeSort (le:=fun x y=>decide (x<=y)) (fun a b c h k=>?_) (fun a b=>?_) xs).imp fun h=>zC h
  ·exact zA (iI (zC h) (zC k))
  ·rcases List.le_total a b with h|h<;>simp[h]
 refine ztM (R:=fun x y=>x<=y) (fun a _ b _ h k=>List.le_antisymm h k) ((List.mergeSort_perm _ _).trans (zeY leS xs).symm) h1 ((ziF ycK ydG xs).imp fun h=>zzP.1 h)
theorem sort_sc{f:FuncId}{T:TypeId}(hfn:IsFn P f) (h0:∀(a:Option Addr) (c:Nat) (w:World),Calls P f #[.slice a 0 c] w fun x w'=>x = .returned (.tuple #[])/\w'=w) (h1:∀(b c:Nat) (l:List Bs) (w:World),Go.Sort.Holds encStr w b 0 l.toArray->b<w.heap.size->l.length<4611686018427387904->Calls P f #[.slice (some ⟨b,0,none⟩) l.length c] w fun x w'=>x = .returned (.tuple #[])/\∃n os,w'=grow (putRow encStr (Go.Sort.ahead w n) b 0 (l.mergeSort fun x y=>decide (x<=y)).toArray) os):
  SCok P G f ⟨⟨[(0,.own 0)],[.osl .s T]⟩,0,[(none,⟨[],[.osl .s T]⟩)],fun(xs:List Bs)=>bif decide (xs.length<1152921504606846976)then some (zyZ xs)else none⟩:=by
 refine⟨hfn,fun S0 w0 us E0 L0 (xs:List Bs) (d:List Bs) _ hul R hy=>?_⟩;have hy:(bif decide (xs.length<1152921504606846976)then some (zyZ xs)else none)=some d:=hy;obtain⟨hlt,hy⟩:=zaG hy;have hlt:=zC hlt;have hd:zyZ xs=d:=osi hy;subst hd;have hul:us.length=1:=hul;obtain⟨u,rfl⟩:∃u,us=[u]:=by
  match us,hul with
  |[u],_=>exact⟨u,rfl⟩
 have hput:(Shp.put (⟨[(0,.own 0)],[.osl .s T]⟩:Shp) xs)=⟨[(0,.own 0 0)],[.osl 0 .s T xs]⟩:=rfl;have R:RelV ⟨S0,zcD L0,w0⟩ S0 E0 L0 ⟨[(0,.own 0 0)],[.osl 0 .s T xs]⟩ (fun t=>[u].getD t undef) w0:=by rw[<-hput];exact R
 obtain⟨v,cs,rs,hL,hE,hrl,hsm,ho,hc⟩:=ymQ R;have hsl:(zyZ xs).length=xs.length:=(zeY leS xs).length_eq;have hcs:=yiH hrl;have H:=R.hs;rcases hc with⟨hx,a,c,hu⟩|⟨b,c,fz,hu,hv,k1,k2,k3,k4,k5⟩
 ·have hu:u = .slice a 0 c:=hu;have hso:zyZ xs=[]:=by rw[hx];rfl
  rw[hu];refine(h0 a c w0).mono ?_;rintro x w' ⟨rfl,rfl⟩;refine⟨_,rfl,?_⟩;rw[hso];rw[hx]at hrl hsm hL;exact ygF (e:=.s) (ys:=[]) (by rw[hL]at H ⊢;exact H) hE hrl hsm
 ·have hu:u=sl b 0 xs.length c:=hu;subst hcs;have hb:b<w0.heap.size:=(aP.1 k4).1;rw[hu];refine(h1 b c xs w0 (holds_of k4 k5) hb (by omega)).mono ?_;rintro x w' ⟨rfl,q,os,rfl⟩;refine⟨_,rfl,?_⟩;rw[sortS_eq];obtain⟨g1,g2,g3⟩:=yaL (enc:=encStr) (ds:=zyZ xs) (q:=q) (os:=os) k4 (by rw[aE,hsl]);have H1:HS ⟨S0,zcD L0,w0⟩ S0 w0 [.osl (sl b 0 xs.length c) xs.length 1 (xs.map encStr) rs T]:=by rw[hL,hv]at H ⊢;exact H
  have H2:=HS.inplace (w':=grow (putRow encStr (Go.Sort.ahead w0 q) b 0 (zyZ xs).toArray) os) H1 k4 k5 k3 k1 (aI _) (cs':=(zyZ xs).map encStr) (rs':=rs) (by rw[aE,hsl,dM]) (by rw[aC,aC,aE,aE,hsl]) rfl rfl rfl g3 g2 g1;rw[<-hsl]at H2;refine ygF (e:=.s) (ys:=zyZ xs) H2 hE (yhS _) ?_;rw[hsl];exact .inl hu
theorem ywW{f:FuncId}{T:TypeId}{cp:List Bs->List Bs}(hfn:IsFn P f)(hcp:∀l,(cp l).length<=l.length)(hc0:cp []=[]) (h0:∀(a:Option Addr) (c:Nat) (w:World),Calls P f #[.slice a 0 c] w fun x w'=>x = .returned (.slice a 0 c)/\w'=w) (h1:∀(b c:Nat) (l:List Bs) (w:World),Go.Sort.Holds encStr w b 0 l.toArray->l.length<=9223372036854775807->l.length<=c->Calls P f #[.slice (some ⟨b,0,none⟩) l.length c] w fun x w'=>x = .returned (.slice (some ⟨b,0,none⟩) (cp l).length c)/\∃n,w'=putRow encStr (Go.Sort.ahead w n) b 0 (cp l++bP (l.length-(cp l).length) []).toArray):
  SCok P G f ⟨⟨[(0,.own 0)],[.osl .s T]⟩,1,[(none,⟨[(0,.h (.sl .s))],[.dead]⟩)],fun(xs:List Bs)=>bif decide (xs.length<1152921504606846976)then some (cp xs)else none⟩:=by
 refine⟨hfn,fun S0 w0 us E0 L0 (xs:List Bs) (d:List Bs) _ hul R hy=>?_⟩;have hy:(bif decide (xs.length<1152921504606846976)then some (cp xs)else none)=some d:=hy;obtain⟨hlt,hy⟩:=zaG hy;have hlt:=zC hlt;have hd:cp xs=d:=osi hy;subst hd;have hul:us.length=1:=hul;obtain⟨u,rfl⟩:∃u,us=[u]:=by
  match us,hul with
  |[u],_=>exact⟨u,rfl⟩
 have hput:(Shp.put (⟨[(0,.own 0)],[.osl .s T]⟩:Shp) xs)=⟨[(0,.own 0 0)],[.osl 0 .s T xs]⟩:=rfl;have R:RelV ⟨S0,zcD L0,w0⟩ S0 E0 L0 ⟨[(0,.own 0 0)],[.osl 0 .s T xs]⟩ (fun t=>[u].getD t undef) w0:=by rw[<-hput];exact R
 obtain⟨v,cs,rs,hL,hE,hrl,hsm,ho,hc⟩:=ymQ R;have hcs:=yiH hrl;have H:=R.hs;rcases hc with⟨hx,a,c,hu⟩|⟨b,c,fz,hu,hv,k1,k2,k3,k4,k5⟩
 ·have hu:u = .slice a 0 c:=hu;have hso:cp xs=[]:=by rw[hx];exact hc0
  rw[hu];refine(h0 a c w0).mono ?_;rintro x w' ⟨rfl,rfl⟩;refine⟨_,rfl,?_⟩;rw[hso];rw[hx]at hrl hsm hL;refine yqC (e:=.s) (ys:=[]) (by rw[hL]at H ⊢;exact H) hE hrl ?_ rfl;rw[<-hu];exact hsm
 ·have hu:u=sl b 0 xs.length c:=hu;subst hcs;rw[hu];refine(h1 b c xs w0 (holds_of k4 k5) (by omega) k1).mono ?_;rintro x w' ⟨rfl,q,rfl⟩;refine⟨_,rfl,?_⟩;have hl:=hcp xs;obtain⟨g1,g2,g3⟩:=yaL (enc:=encStr) (ds:=cp xs++bP (xs.length-(cp xs).length) []) (q:=q) (os:=#[]) k4 (by rw[aE,aC,iY];omega);rw[grow_empty]at g1 g2 g3;have H1:HS ⟨S0,zcD L0,w0⟩ S0 w0 [.osl (sl b 0 xs.length c) xs.length 1 (xs.map encStr) rs T]:=by rw[hL,hv]at H ⊢;exact H
  have hcl:(cp xs).length=(cp xs).length*1:=(dM _).symm;generalize hds:cp xs++bP (xs.length-(cp xs).length) ([]:Bs)=ds at g1 g2 g3 ⊢;have hdl:ds.map encStr++rs=(cp xs).map encStr++((bP (xs.length-(cp xs).length) ([]:Bs)).map encStr++rs):=by rw[<-hds,cT,aU]
  generalize (bP (xs.length-(cp xs).length) ([]:Bs)).map encStr++rs=rs' at hdl;have hdn:ds.length=xs.length:=by rw[<-hds,aC,iY];omega
  have hlen:((cp xs).map encStr++rs').length=(xs.map encStr++rs).length:=by rw[<-hdl];simp only[aC,aE,hdn]
  rw[hdl]at g1;generalize cp xs=ys at *;have H2:=HS.inplace (w':=putRow encStr (Go.Sort.ahead w0 q) b 0 ds.toArray) (cs':=ys.map encStr) (rs':=rs') (k:=ys.length) H1 k4 k5 k3 k1 hl (by rw[aE];exact hcl) hlen rfl rfl rfl g3 g2 g1;exact yqC (e:=.s) (ys:=ys) H2 hE (yhS _) (.inl rfl) rfl
end
end Go.Proofs.YtopanhneegpgcaaGreatDoor.Am
namespace Go.Proofs
open Go.Shelf Go.RowKit Go.Lib
variable {P:Program}{ρ:Ren}
set_option maxHeartbeats 4000000 in
set_option maxRecDepth 100000 in
theorem YtopanhneegpgcaaGreatDoor.insEnd(L:Lays2.n22 P ρ)(b o n c d q m e:Nat)(vs:List Value)(w:World)(hm:0<m)(hroom:n+m<=c)(hnm:n+m<=1048576)(hvl:vs.length=m) (hsp:∀j,j<m->(w.cell? ⟨b,o+n+j,none⟩).isSome=true) (hfz:∀j,j<m->w.frozen? ⟨b,o+n+j,none⟩=false) (hvs:∀j v,vs[j]? = some v->w.cell? ⟨d,q+j,none⟩=some v) (h1:∀v∈vs,v.oneCell'=true):Calls P (ρ.f 22) #[.slice (some ⟨b,o,none⟩) n c,.int .i64 n,.slice (some ⟨d,q,none⟩) m e] w fun x w'=>x = .returned (.slice (some ⟨b,o,none⟩) (n+m) c)/\w'=w.setCells b (o+n) vs:=by
 have u0:=run_underlying L.t0;have u3:=run_underlying L.t3;have u4:=run_underlying L.t4;have u9:=run_underlying L.t9;have u24:=run_underlying L.t24;have t0:=L.t0;have a0:=L.a0;have z0:=L.z0;have v0:=L.v0;have t3:=L.t3;have a3:=L.a3;have z3:=L.z3;have v3:=L.v3;have t4:=L.t4;have a4:=L.a4;have z4:=L.z4;have v4:=L.v4;have t9:=L.t9;have a9:=L.a9;have z9:=L.z9;have v9:=L.v9;have t24:=L.t24;have a24:=L.a24;have z24:=L.z24;have v24:=L.v24;have mixed:=L.mixed;have hm0:¬((m:Int)=0):=by omega
 have src:Src P 1 (ρ.t 24) (.slice (some ⟨d,q,none⟩) m e) m vs w:=Src.ofSlice w L.t24 ⟨d,q,none⟩ m e vs (by omega) (fun j u hj=>by rw[Addr.add_lit];exact hvs j u hj) h1
 go_enter L.f22,Body2.n22_ntmps ρ
 go_wp2_with (at_builtin;refine wpList_append_room1 _ rfl _ _ (ρ.t 24) (ρ.t 24) rfl (ρ.t 9) _ _ L.t24 L.i9 b o n c rfl _ rfl m vs src hroom (by rw[hvl];exact hsp) (by rw[hvl];exact hfz) ?_)
 go_ret
 exact⟨rfl,rfl⟩
set_option maxHeartbeats 4000000 in
set_option maxRecDepth 100000 in
theorem YtopanhneegpgcaaGreatDoor.insMid(L:Lays2.n22 P ρ)(b o n c i d q m e:Nat)(cs vs:List Value)(w:World)(hi:i<n)(hm:0<m)(hroom:n+m<=c)(hnm:n+m<=1048576)(hd:d≠b)(hcl:cs.length=n)(hvl:vs.length=m) (hcs:∀j v,cs[j]? = some v->w.cell? ⟨b,o+j,none⟩=some v) (hsp:∀j,j<n+m->(w.cell? ⟨b,o+j,none⟩).isSome=true) (hfz:∀j,j<n+m->w.frozen? ⟨b,o+j,none⟩=false) (hvs:∀j v,vs[j]? = some v->w.cell? ⟨d,q+j,none⟩=some v) (h1:∀v∈cs,v.oneCell'=true) (h2:∀v∈vs,v.oneCell'=true) (tA tB:TypeId) (kA kB:Nat) (hsa:w.shape? d=some (tA,kA)) (hsb:w.shape? b=some (tB,kB)) (hkB:kB≠0) (hfa:w.frozen? ⟨d,q,none⟩=false) (hfe:w.frozen? ⟨d,kA,none⟩=false):Calls P (ρ.f 22) #[.slice (some ⟨b,o,none⟩) n c,.int .i64 i,.slice (some ⟨d,q,none⟩) m e] w fun x w'=>x = .returned (.slice (some ⟨b,o,none⟩) (n+m) c)/\w'=(w.drew.setCells b (o+(i+m)) (cs.drop i)).setCells b (o+i) vs:=by
 have u0:=run_underlying L.t0;have u3:=run_underlying L.t3;have u4:=run_underlying L.t4;have u9:=run_underlying L.t9;have u24:=run_underlying L.t24;have t0:=L.t0;have a0:=L.a0;have z0:=L.z0;have v0:=L.v0;have t3:=L.t3;have a3:=L.a3;have z3:=L.z3;have v3:=L.v3;have t4:=L.t4;have a4:=L.a4;have z4:=L.z4;have v4:=L.v4;have t9:=L.t9;have a9:=L.a9;have z9:=L.z9;have v9:=L.v9;have t24:=L.t24;have a24:=L.a24;have z24:=L.z24;have v24:=L.v24;have mixed:=L.mixed;have hm0:¬((m:Int)=0):=by omega
 have hin0:¬((i:Int)=(n:Int)):=by omega
 have hsz:(P.info? (ρ.t 9)).map (·.size)=some 1:=by obtain⟨i0,hi0,h0,h1,h2⟩:=info_parts L.i9;rw[hi0];simp[h1]
 have hdl:(cs.drop i).length=n-i:=by rw[bH,hcl]
 have apart:∀x y,(callFunc (ρ.f 29) #[.slice (some ⟨d,q,none⟩) m e,.slice (some ⟨b,o+(i+m),none⟩) x y]).run P w = .ok (.value (.bool false)) w:=fun x y=>by rw[run_callFunc_extern L.f29 (by kernel_rfl) (by kernel_rfl) (by kernel_rfl) (e:=Extern.SlicesOverlaps.overlaps #[(ρ.t 24),(ρ.t 24)] #[(ρ.t 4)]) (by kernel_rfl),Lib.run_overlaps_apart w (ρ.t 24) (ρ.t 4) (ρ.t 9) L.t24 1 L.z9 ⟨d,q,none⟩ ⟨b,o+(i+m),none⟩ m e x y hd tA tB kA kB hsa hsb hkB hfa hfe];rfl
 have hw:IntKind.i64.wrap ((i:Int)+(m:Int))=(i:Int)+(m:Int):=by rw[IntKind.wrap_i64];omega
 have hw2:IntKind.i64.wrap ((n:Int)+(m:Int))=(n:Int)+(m:Int):=by rw[IntKind.wrap_i64];omega
 have f1:(0:Int)<=(i:Int)+(m:Int):=by omega
 have f2:i<=n:=by omega
 have f3:((i:Int)+(m:Int)).toNat=i+m:=by omega
 have f4:¬(c=i+m):=by omega
 have f5:(i:Int)<=(n:Int)+(m:Int):=by omega
 have f6:¬(c=i):=by omega
 have up:∀ty x y,(Builtin.copy_ #[(ρ.t 24),(ρ.t 24)] ty #[.slice (some ⟨b,o+(i+m),none⟩) (n+m-(i+m)) x,.slice (some ⟨b,o+i,none⟩) (n+m-i) y]).run P w.drew = .ok (goInt (cs.drop i).length) (w.drew.setCells b (o+(i+m)) (cs.drop i)):=fun ty x y=>
  run_copy_cells w.drew _ _ ty (ρ.t 9) b (o+(i+m)) (n+m-(i+m)) x ⟨b,o+i,none⟩ (n+m-i) y (cs.drop i) L.t24 hsz (by rw[hdl];simp only[Nat.min_def];split<;>omega) (fun j v hj=>by rw[Addr.add_lit,dB];exact hcs (i+j) v (by rwa[bR]at hj)) (fun j hj=>by rw[dB];exact hsp _ (by omega)) (fun j hj=>by rw[dB];exact hfz _ (by omega)) fun v hv=>h1 v (List.mem_of_mem_drop hv)
 obtain⟨W,hW⟩:∃W,W=w.drew.setCells b (o+(i+m)) (cs.drop i):=⟨_,rfl⟩;have spW:∀k,k<n+m->(W.cell? ⟨b,o+k,none⟩).isSome=true:=fun k hk=>by rw[hW];exact isSome_setCells b _ _ _ (fun j hj=>by rw[dB];exact hsp _ (by omega)) _ (hsp k hk)
 have put:∀(V:World),(∀x,V.cell? x=W.cell? x)->(∀x,V.frozen? x=W.frozen? x)->∀ty x,(Builtin.copy_ #[(ρ.t 24),(ρ.t 24)] ty #[.slice (some ⟨b,o+i,none⟩) (n+m-i) x,.slice (some ⟨d,q,none⟩) m e]).run P V = .ok (goInt vs.length) (V.setCells b (o+i) vs):=fun V hc hf ty x=>
  run_copy_cells V _ _ ty (ρ.t 9) b (o+i) (n+m-i) x ⟨d,q,none⟩ m e vs L.t24 hsz (by rw[hvl];simp only[Nat.min_def];split<;>omega) (fun j v hj=>by rw[Addr.add_lit,hc,hW,World.cell?_setCells_out b _ _ _ _ (fun h _=>absurd h hd)];exact hvs j v hj) (fun j hj=>by rw[hc,dB];exact spW _ (by omega)) (fun j hj=>by rw[hf,hW,World.frozen?_setCells,dB];exact hfz _ (by omega)) h2
 rw[<-hW]at up
 go_enter L.f22,Body2.n22_ntmps ρ
 go_wp2_with (simp only[apart])
 go_region_law_o (refine step_copy_runI rfl _ _ (ρ.t 24) (ρ.t 24) rfl _ _ (by simp[Act.eval,Act.put]) (by simp[Act.eval,Act.put]) (up _ _ _) ?_)
 go_wp2_with (at_builtin;refine wpList_copy_runI _ rfl _ _ (ρ.t 24) (ρ.t 24) rfl _ _ rfl rfl (put _ (fun _=>rfl) (fun _=>rfl) _ _) ?_)
 go_ret
 first|exact⟨rfl,rfl⟩|exact⟨rfl,by rw[hW]⟩
end Go.Proofs
namespace Go.Proofs.YtopanhneegpgcaaGreatDoor.Am
open Go Go.Proofs Go.RowKit Go.Sort Go.Shelf
theorem setCells_at{b:Nat}{T:TypeId}{fz:Nat×Nat}:∀(vs:LV) (o:Nat) (w:World) (cs:LV),w.heap[b]? = some (.cells cs.toArray T fz)->o+vs.length<=cs.length ->(w.setCells b o vs).heap[b]? = some (.cells (lay cs o vs).toArray T fz)/\(∀i,i≠b->(w.setCells b o vs).heap[i]? = w.heap[i]?)/\(w.setCells b o vs).heap.size=w.heap.size/\(w.setCells b o vs).os=w.os/\(w.setCells b o vs).tape=w.tape/\(w.setCells b o vs).output=w.output
 |[],o,w,cs,h,_=>by
  have:lay cs o []=cs:=by cases cs<;>rfl
  rw[this];exact⟨h,fun _ _=>rfl,rfl,rfl,rfl,rfl⟩
 |v::vs,o,w,cs,h,hl=>by
  have hl:o+(vs.length+1)<=cs.length:=hl;obtain⟨h1,h2,h3,h4,h5,h6⟩:=setCells_at vs (o+1) (w.setCell ⟨b,o,none⟩ v) (cs.set o v) (ybK h) (by rw[eK];omega);refine⟨?_,fun i hi=>(h2 i hi).trans ?_,h3.trans ?_,h4,h5,h6⟩
  ·show((w.setCell ⟨b,o,none⟩ v).setCells b (o+1) vs).heap[b]? = _;rw[h1];congr 3;apply bS;intro j;rw[zkA,zkA,eK,List.getElem?_set];by_cases hj:o<=j/\j<o+(vs.length+1)
   ·rw[zI (show o<=j/\j<o+(v::vs).length/\j<cs.length from⟨hj.1,hj.2,by omega⟩)];by_cases hjo:o=j
    ·subst hjo;rw[zH (by omega),zI rfl,zI (by omega)];simp
    ·rw[zI (by omega),show j-o=(j-(o+1))+1 by omega,List.getElem?_cons_succ]
   ·rw[zH (show ¬(o<=j/\j<o+(v::vs).length/\j<cs.length)from fun h=>hj ⟨h.1,h.2.1⟩),zH (by omega),zH (by omega)]
  ·show(w.heap.modify b _)[i]? = _;rw[fU,zH (Ne.symm hi)]
  ·show(w.heap.modify b _).size=_;simp
theorem lay_end{cs vs rs:LV}(h:vs.length<=rs.length):lay (cs++rs) cs.length vs=cs++vs++rs.drop vs.length:=by
 apply bS;intro j;rw[zkA,aU];by_cases hj:j<cs.length
 ·rw[zH (by omega),aH hj,aH hj]
 ·by_cases hj2:j<cs.length+vs.length
  ·rw[zI ⟨by omega,hj2,by rw[aC];omega⟩,aJ (by omega),aH (by omega)]
  ·rw[zH (by omega),aJ (by omega),aJ (by omega),aJ (by omega),bR];congr 1;omega
theorem lay_ins{cs vs rs:LV}{i:Nat}(hi:i<=cs.length)(h:vs.length<=rs.length):lay (lay (cs++rs) (i+vs.length) (cs.drop i)) i vs=cs.take i++vs++cs.drop i++rs.drop vs.length:=by
 apply bS;intro j;have hA:(cs.take i).length=i:=by rw[bA];omega
 have hB:(cs.drop i).length=cs.length-i:=bH;rw[zkA,zkA,ztI,aU,aU];by_cases h1:j<i
 ·rw[zH (by omega),zH (by omega),aH (by omega),aH (by omega),List.getElem?_take_of_lt h1]
 ·by_cases h2:j<i+vs.length
  ·rw[zI ⟨by omega,h2,by rw[aC];omega⟩,aJ (by omega),aH (by omega)];congr 1;omega
  ·rw[zH (by omega)];by_cases h3:j<i+vs.length+(cs.length-i)
   ·rw[zI ⟨by omega,by omega,by rw[aC];omega⟩,aJ (by omega),aJ (by omega),aH (by omega)];congr 1;omega
   ·rw[zH (by omega),aJ (by omega),aJ (by omega),aJ (by omega),aJ (by omega),bR];congr 1;omega
def insP(xs:List Bs)(i:Int)(vs:List Bs):Option (List Bs):=bif decide (0<=i)&&decide (i.toNat<=xs.length)&&decide (1<=vs.length)&&decide (xs.length+vs.length<=1048576)then some (xs.take i.toNat++vs++xs.drop i.toNat)else none
theorem yaP(l:List Bs):∀v∈l.map encStr,v.oneCell'=true:=fun v h=>by obtain⟨x,_,rfl⟩:=List.mem_map.1 h;rfl
section
variable {P:Program}{G:List (Nat×Obj)}{ρ:Ren}
theorem xeB{z:Value}(hz:z.cells.size=1)(n:Nat):(Builtin.zeroCells z.cells n).size=n:=by simp[Builtin.zeroCells,hz]
theorem xcX(L:Lays2.n22 P ρ)(hT:ρ.t 9≠byteT)(hfn:IsFn P (ρ.f 22)):
  SCok P G (ρ.f 22) ⟨⟨[(0,.own 0),(1,.h (.i .i64)),(2,.own 1)],[.osl .s (ρ.t 9),.osl .s (ρ.t 9)]⟩,1,[(none,⟨[(0,.own 2)],[.dead,.dead,.osl .s (ρ.t 9)]⟩)],fun(x:Int×List Bs×List Bs)=>insP x.2.1 x.1 x.2.2⟩:=by
 refine⟨hfn,fun S0 w0 us E0 L0 (x:Int×List Bs×List Bs) (d:List Bs) _ hul R hy=>?_⟩;obtain⟨i,xs,vs⟩:=x;have hy:insP xs i vs=some d:=hy;unfold insP at hy;obtain⟨hb,hy⟩:=zaG hy;cases hy;simp only[aF,zD]at hb;obtain⟨⟨⟨hi0,hin⟩,hm1⟩,hbig⟩:=hb;obtain⟨k,rfl⟩:=Int.eq_ofNat_of_zero_le hi0;simp only[bT]at hin ⊢;have hul:us.length=3:=hul;obtain⟨u,ui,uv,rfl⟩:∃u ui uv,us=[u,ui,uv]:=by
  match us,hul with
  |[u,ui,uv],_=>exact⟨u,ui,uv,rfl⟩
 have hput:(Shp.put (⟨[(0,.own 0),(1,.h (.i .i64)),(2,.own 1)],[.osl .s (ρ.t 9),.osl .s (ρ.t 9)]⟩:Shp) (((k:Int),xs,vs):Int×List Bs×List Bs))=⟨[(0,.own 0 0),(1,.v (.i .i64) (k:Int)),(2,.own 1 0)],[.osl 0 .s (ρ.t 9) xs,.osl 0 .s (ρ.t 9) vs]⟩:=rfl;have R:RelV ⟨S0,zcD L0,w0⟩ S0 E0 L0 ⟨[(0,.own 0 0),(1,.v (.i .i64) (k:Int)),(2,.own 1 0)],[.osl 0 .s (ρ.t 9) xs,.osl 0 .s (ρ.t 9) vs]⟩ (fun t=>[u,ui,uv].getD t undef) w0:=by rw[<-hput];exact R
 obtain⟨r0,ee0,g1,g2,v,v',cs,rs,rfl,rfl,hrl,hsm⟩:=R.obj 0 _ rfl;obtain⟨r1,ee1,j1,j2,z,z',ds,qs,rfl,rfl,hrl2,hsm2⟩:=R.obj 1 _ rfl;obtain⟨_,e1',h8,h9⟩:=(show VB S0 E0 (.own 0 0) u from R.sl 0);rw[g2]at h8;cases h8;obtain rfl:u=v':=(h9 _ _ _ rfl).2 rfl;obtain⟨_,e2',h8',h9'⟩:=(show VB S0 E0 (.own 1 0) uv from R.sl 2);rw[j2]at h8';cases h8';obtain rfl:uv=z':=(h9' _ _ _ rfl).2 rfl;have hui:rep (.i .i64) S0 [ui] (k:Int):=R.sl 1;have hui:ui = .int .i64 (k:Int):=by have h:[ui]=[Value.int .i64 (k:Int)]:=hui;injection h
 subst hui;have hL:L0.length=2:=R.lL;have hE:E0.length=2:=R.lE;have hcs:=yiH hrl;have hds:=yiH hrl2;subst hcs;subst hds;have hk0:lkR L0 0=some (.osl v xs.length 1 (xs.map encStr) rs (ρ.t 9)):=by rw[zbZ];exact g1
 have hk1:lkR L0 1=some (.osl z vs.length 1 (vs.map encStr) qs (ρ.t 9)):=by rw[zbZ];exact j1
 have huz:z=uv:=(hsm2.eq (i:=0) (show 0<vs.length from hm1)).symm;subst huz;obtain⟨vb,vc,vfz,hz,a1,a2,a3,a4,a5⟩:∃b c fz,z=sl b 0 vs.length c/\vs.length<=c/\(vs.map encStr).length=vs.length*1/\c*1<=(vs.map encStr++qs).length/\w0.heap[b]? = some (.cells (vs.map encStr++qs).toArray (ρ.t 9) fz)/\okfz (ρ.t 9) fz (vs.map encStr++qs).length:=by
  rcases R.hs.own 1 _ hk1 with⟨_,h,_⟩|h
  ·omega
  ·exact h
 have hvs:∀j y,(vs.map encStr)[j]? = some y->w0.cell? ⟨vb,0+j,none⟩=some y:=fun j y hj=>by have hjl:=(aD.1 hj).1;rw[zhA a4,aV,aH hjl];exact hj
 -- a new own slice behind two that are gone
 have fin:∀{w':World} {u2:Value} {cs' rs':LV},HS ⟨S0,zcD L0,w0⟩ S0 w' [.osl (.slice none 0 0) 0 0 [] [] 0,.osl (.slice none 0 0) 0 0 [] [] 0,.osl u2 (xs.take k++vs++xs.drop k).length 1 cs' rs' (ρ.t 9)]->cs'=(xs.take k++vs++xs.drop k).map encStr->u2.oneCell'=true ->
   ∃v',Ending.returned u2 = .returned v'/\∃S' E' L' σo V',(∀{γ:Type} (k':Ex->St->Option γ),out [] [(none,(⟨[(0,.own 2)],[.dead,.dead,.osl .s (ρ.t 9)]⟩:Shp))] (xs.take k++vs++xs.drop k:List Bs) k'=k' .normal σo)/\Mem.le S0 S'/\Pin 2 E0 E'/\RelV ⟨S0,zcD L0,w0⟩ S' E' L' σo V' w'/\Ver0 σo.hp/\2<=σo.hp.length/\v'=zzR (zyD V' 0 1):=fun {w' u2 cs' rs'} H hc h1=>by
  subst hc;refine⟨u2,rfl,S0,[.dead,.dead,.osl 0 u2 1],_,⟨[(0,.own 2 0)],[.dead,.dead,.osl 0 .s (ρ.t 9) (xs.take k++vs++xs.drop k)]⟩,fun _=>u2,fun k=>rfl,Mem.le_refl _,fun k a hk ha=>?_,⟨H,rfl,rfl,fun i o h=>?_,fun t=>?_⟩,?_,by simp,rfl⟩
  ·rcases Nat.lt_or_ge k 1 with h|h
   ·obtain rfl:k=0:=by omega
    rw[g2]at ha;cases ha;exact⟨.dead,rfl,.inl ⟨_,_,_,rfl,.inl rfl⟩⟩
   ·obtain rfl:k=1:=by omega
    rw[j2]at ha;cases ha;exact⟨.dead,rfl,.inl ⟨_,_,_,rfl,.inl rfl⟩⟩
  ·match i with
   |0=>cases h;exact⟨_,_,rfl,rfl,rfl,rfl⟩
   |1=>cases h;exact⟨_,_,rfl,rfl,rfl,rfl⟩
   |2=>cases h;exact⟨_,_,rfl,rfl,u2,u2,_,rs',rfl,rfl,yhS _,.inl rfl⟩
   |i+3=>simp at h
  ·cases t with
   |zero=>exact VR.ofC (show VC S0 _ (.own 2 0) u2 from⟨h1,_,rfl,fun r v' s he=>by cases he;exact⟨aI 0,fun _=>rfl⟩⟩)|succ t=>trivial
  ·intro i ver e' T' xs' hi
   match i with
   |0=>cases hi
   |1=>cases hi
   |2=>cases hi;rfl
   |i+3=>simp at hi
 obtain⟨q0,q1,hL2⟩:∃q0 q1,L0=[q0,q1]:=by
  match L0,hL with
  |[q0,q1],_=>exact⟨q0,q1,rfl⟩
 have hq0:q0 = .osl v xs.length 1 (xs.map encStr) rs (ρ.t 9):=by rw[hL2]at g1;exact Option.some.inj g1
 have hq1:q1 = .osl z vs.length 1 (vs.map encStr) qs (ρ.t 9):=by rw[hL2]at j1;exact Option.some.inj j1
 have deadI:∀{w:World} {A:List Res} {r:Res},HS ⟨S0,zcD L0,w0⟩ S0 w (r::A)->HS ⟨S0,zcD L0,w0⟩ S0 w A:=fun {w A r} H=>H.rm 0;have fresh:∀{w':World} {cs' rs':LV} {cap:Nat},Ext w0 w'->w'.heap[w0.heap.size]? = some (.cells (cs'++rs').toArray (ρ.t 9) (0,0))->cs'.length=(xs.take k++vs++xs.drop k).length->cs'=(xs.take k++vs++xs.drop k).map encStr->(xs.take k++vs++xs.drop k).length<=cap->cap<=(cs'++rs').length ->
   ∃v',Ending.returned (sl w0.heap.size 0 (xs.take k++vs++xs.drop k).length cap) = .returned v'/\∃S' E' L' σo V',(∀{γ:Type} (k':Ex->St->Option γ),out [] [(none,(⟨[(0,.own 2)],[.dead,.dead,.osl .s (ρ.t 9)]⟩:Shp))] (xs.take k++vs++xs.drop k:List Bs) k'=k' .normal σo)/\Mem.le S0 S'/\Pin 2 E0 E'/\RelV ⟨S0,zcD L0,w0⟩ S' E' L' σo V' w'/\Ver0 σo.hp/\2<=σo.hp.length/\v'=zzR (zyD V' 0 1):=fun {w' cs' rs' cap} hx hh hl hc h1 h2=>by
  have H1:HS ⟨S0,zcD L0,w0⟩ S0 w0 []:=by have:=R.hs;rw[hL2]at this;have h3:=HS.rm (HS.rm this 0) 0;rw[hL2];exact h3
  have H2:=H1.push hx (r:=.osl (sl w0.heap.size 0 (xs.take k++vs++xs.drop k).length cap) (xs.take k++vs++xs.drop k).length 1 cs' rs' (ρ.t 9)) (.inr ⟨w0.heap.size,cap,(0,0),rfl,h1,by rw[hl,dM],by rw[dM];exact h2,hh,.inl rfl⟩) fun b hb=>by cases hb;exact aI _
  exact fin (HS.nilOwn (HS.nilOwn H2 0 0) 0 0) hc rfl
 have hlen:(xs.take k++vs++xs.drop k).length=xs.length+vs.length:=by simp only[aC,bA,bH];omega
 have hmap:(xs.take k++vs++xs.drop k).map encStr=(xs.map encStr).take k++vs.map encStr++(xs.map encStr).drop k:=by rw[cT,cT,List.map_take,List.map_drop]
 have hz1:∀n,(Builtin.zeroCells (Value.string ⟨#[]⟩).cells n).toList.length=n:=fun n=>by simpa using xeB (z:=Value.string ⟨#[]⟩) rfl n
 -- at the end, no room
 have endGrow:∀(base:Option Addr) (c:Nat),u = .slice base xs.length c->xs.length<=c->c<xs.length+vs.length->k=xs.length->(base=none->xs.length=0)->(∀a,base=some a->∀j y,(xs.map encStr)[j]? = some y->w0.cell? (a.add j)=some y) ->
   Calls P (ρ.f 22) [u,.int .i64 (k:Int),z].toArray w0 fun e w'=>∃v,e = .returned v/\∃S' E' L' σo V',(∀{γ:Type} (k':Ex->St->Option γ),out [] [(none,(⟨[(0,.own 2)],[.dead,.dead,.osl .s (ρ.t 9)]⟩:Shp))] (xs.take k++vs++xs.drop k:List Bs) k'=k' .normal σo)/\Mem.le S0 S'/\Pin 2 E0 E'/\RelV ⟨S0,zcD L0,w0⟩ S' E' L' σo V' w'/\Ver0 σo.hp/\2<=σo.hp.length/\v=zzR (zyD V' 0 1):=fun base c hu hc1 hc2 hk hnil hcell=>by
  subst hk;rw[hu,hz];refine(Any2.slices_Insert_string_end_grow L base xs.length c vb 0 vs.length vc (xs.map encStr) (vs.map encStr) w0 hm1 hc1 hc2 (by omega) (by simp) (by simp) hnil hcell hvs (yaP vs)).mono ?_;rintro e w' ⟨rfl,rfl⟩;have hge:=grownCap_ge w0 (xs.length+vs.length) c (ρ.t 9);have ht:xs.take xs.length++vs++xs.drop xs.length=xs++vs:=by rw[List.take_length,List.drop_length,bK]
  have:=fresh (w':=w0.drew.alloc (.cells ((xs.map encStr++vs.map encStr).toArray++Builtin.zeroCells (Value.string ⟨#[]⟩).cells (grownCap w0 (xs.length+vs.length) c (ρ.t 9)-(xs.length+vs.length))) (ρ.t 9))) (cs':=xs.map encStr++vs.map encStr) (rs':=(Builtin.zeroCells (Value.string ⟨#[]⟩).cells (grownCap w0 (xs.length+vs.length) c (ρ.t 9)-(xs.length+vs.length))).toList) (cap:=grownCap w0 (xs.length+vs.length) c (ρ.t 9)) (Ext.trans (Ext.drew w0) (Ext.alloc w0.drew _)) (by
   have h1:=zaQ w0.drew (.cells ((xs.map encStr++vs.map encStr).toArray++Builtin.zeroCells (Value.string ⟨#[]⟩).cells (grownCap w0 (xs.length+vs.length) c (ρ.t 9)-(xs.length+vs.length))) (ρ.t 9));rw[show(w0.drew).heap.size=w0.heap.size from rfl]at h1;rw[h1];congr 2
   apply dP;simp) (by rw[hlen];simp) (by rw[ht,cT]) (by rw[hlen];exact hge) (by rw[aC,hz1,aC,aE,aE];omega)
  rw[hlen]at this;exact this
 rcases R.hs.own 0 _ hk0 with⟨hv,hn,_,_⟩|⟨b,c,fz,hv,b1,b2,b3,b4,b5⟩
 ·-- nothing is in it
  have hx:xs=[]:=aS hn;obtain⟨a,hu⟩:∃a,u = .slice a 0 0:=by
   rcases hsm with h|⟨_,_,_,a,h⟩
   ·exact⟨none,by rw[h,hv]⟩
   ·exact⟨a,h⟩
  exact endGrow a 0 (by rw[hu,hn]) (by omega) (by omega) (by omega) (fun _=>hn) (fun a _ j y hj=>by rw[hx]at hj;simp at hj)
 ·have hu:u=sl b 0 xs.length c:=by
   rcases hsm with h|⟨h,_⟩
   ·rw[h,hv]
   ·rw[hv]at h;cases h
  have hbne:vb≠b:=fun e=>by have:=R.hs.inj 0 1 _ _ b hk0 hk1 (by rw[hv];rfl) (by rw[hz,e];rfl);omega
  have hcell:∀j y,(xs.map encStr)[j]? = some y->w0.cell? ⟨b,0+j,none⟩=some y:=fun j y hj=>by have hjl:=(aD.1 hj).1;rw[zhA b4,aV,aH hjl];exact hj
  have hblen:(xs.map encStr++rs).length=xs.length+rs.length:=by rw[aC,aE]
  rw[dM]at b3;have spare:∀j,j<c->(w0.cell? ⟨b,j,none⟩).isSome=true/\w0.frozen? ⟨b,j,none⟩=false:=fun j hj=>by refine⟨?_,yiG b4 b5 (by omega)⟩;rw[zhA b4,aO (by omega)];rfl
  have inpl:∀{w':World},xs.length+vs.length<=c->w'.heap[b]? = some (.cells ((xs.map encStr).take k++vs.map encStr++(xs.map encStr).drop k++rs.drop vs.length).toArray (ρ.t 9) fz)->(∀i,i≠b->w'.heap[i]? = w0.heap[i]?)->w'.heap.size=w0.heap.size->w'.os=w0.os->w'.tape=w0.tape->w'.output=w0.output ->
    ∃v',Ending.returned (sl b 0 (xs.length+vs.length) c) = .returned v'/\∃S' E' L' σo V',(∀{γ:Type} (k':Ex->St->Option γ),out [] [(none,(⟨[(0,.own 2)],[.dead,.dead,.osl .s (ρ.t 9)]⟩:Shp))] (xs.take k++vs++xs.drop k:List Bs) k'=k' .normal σo)/\Mem.le S0 S'/\Pin 2 E0 E'/\RelV ⟨S0,zcD L0,w0⟩ S' E' L' σo V' w'/\Ver0 σo.hp/\2<=σo.hp.length/\v'=zzR (zyD V' 0 1):=fun {w'} hroom hnew hoth hsz hos htp hop=>by
   have hl2:((xs.map encStr).take k++vs.map encStr++(xs.map encStr).drop k++rs.drop vs.length).length=(xs.map encStr++rs).length:=by simp only[aC,bA,bH,aE];omega
   have H1:HS ⟨S0,zcD L0,w0⟩ S0 w0 [.osl (sl b 0 xs.length c) xs.length 1 (xs.map encStr) rs (ρ.t 9)]:=by have h2:=R.hs;rw[hL2,hq0,hv]at h2;have h3:=HS.rm h2 1;rw[hL2,hq0,hv];exact h3
   have H2:=HS.upd H1 (k:=0) (w':=w') (r:=.osl (sl b 0 xs.length c) xs.length 1 (xs.map encStr) rs (ρ.t 9)) (r':=.osl (sl b 0 (xs.length+vs.length) c) (xs.length+vs.length) 1 ((xs.map encStr).take k++vs.map encStr++(xs.map encStr).drop k) (rs.drop vs.length) (ρ.t 9)) rfl (by omega) hos htp hop (fun i _ hne=>hoth i fun e=>hne (by rw[e];rfl)) (.inr ⟨b,c,fz,rfl,hroom,by simp only[aC,bA,bH,aE];omega,by rw[hl2,dM];exact b3,hnew,by rw[hl2];exact b5⟩) fun b' hb'=>.inl hb';have H3:HS ⟨S0,zcD L0,w0⟩ S0 w' [.osl (sl b 0 (xs.length+vs.length) c) (xs.take k++vs++xs.drop k).length 1 ((xs.map encStr).take k++vs.map encStr++(xs.map encStr).drop k) (rs.drop vs.length) (ρ.t 9)]:=by rw[hlen];exact H2
   exact fin (HS.nilOwn (HS.nilOwn H3 0 0) 0 0) hmap.symm rfl
  by_cases hkn:k=xs.length
  ·by_cases hroom:xs.length+vs.length<=c
   ·have hk:=hkn;rw[hu,hz];subst hkn;refine(YtopanhneegpgcaaGreatDoor.insEnd L b 0 xs.length c vb 0 vs.length vc (vs.map encStr) w0 hm1 hroom hbig (by simp) (fun j hj=>by rw[aV];exact(spare _ (by omega)).1) (fun j hj=>by rw[aV];exact(spare _ (by omega)).2) hvs (yaP vs)).mono ?_;rintro e w' ⟨rfl,rfl⟩;rw[aV];obtain⟨s1,s2,s3,s4,s5,s6⟩:=setCells_at (vs.map encStr) xs.length w0 _ b4 (by rw[aE];omega);refine inpl hroom ?_ s2 s3 s4 s5 s6;rw[s1];have h1:=lay_end (cs:=xs.map encStr) (vs:=vs.map encStr) (rs:=rs) (by rw[aE];omega);rw[aE,aE]at h1;have e1:(xs.map encStr).take xs.length=xs.map encStr:=List.take_of_length_le (by rw[aE];omega);have e2:(xs.map encStr).drop xs.length=[]:=List.drop_eq_nil_of_le (by rw[aE];omega);rw[h1,e1,e2,bK]
   ·exact endGrow (some ⟨b,0,none⟩) c hu b1 (by omega) hkn (fun h=>by cases h) (fun a ha j y hj=>by cases ha;rw[zeE];exact hcell j y hj)
  ·have hk:k<xs.length:=by omega
   rw[hu,hz];by_cases hroom:xs.length+vs.length<=c
   ·refine (YtopanhneegpgcaaGreatDoor.insMid L b 0 xs.length c k vb 0 vs.length vc (xs.map encStr) (vs.map encStr) w0 hk hm1 hroom hbig hbne (by simp) (by simp) hcell (fun j hj => by rw [Nat.zero_add]; exact (spare _ (by omega)).1) (fun j hj => by rw [Nat.zero_add]; exact (spare _ (by omega)).2) hvs (yaP xs) (yaP vs) (ρ.t 9) (ρ.t 9) (vs.map encStr ++ qs).length (xs.map encStr ++ rs).length (by simp [World.shape?, a4]) (by simp [World.shape?, b4]) (by omega) (yiG a4 a5 (by rw [List.length_append, List.length_map]; omega)) (by
        unfold World.frozen?;simp only[a4];rcases a5 with h|⟨_,h⟩
        ·rw[h];simp
        ·exact absurd h hT)).mono ?_
    rintro e w' ⟨rfl,rfl⟩;rw[aV,aV];obtain⟨s1,s2,s3,s4,s5,s6⟩:=setCells_at ((xs.map encStr).drop k) (k+vs.length) w0.drew _ b4 (by rw[bH,aE];omega);obtain⟨t1,t2,t3,t4,t5,t6⟩:=setCells_at (vs.map encStr) k (w0.drew.setCells b (k+vs.length) ((xs.map encStr).drop k)) _ s1 (by rw[ztI,aE];omega);refine inpl hroom ?_ (fun i hi=>(t2 i hi).trans (s2 i hi)) (t3.trans s3) (t4.trans s4) (t5.trans s5) (t6.trans s6);rw[t1];have h1:=lay_ins (cs:=xs.map encStr) (vs:=vs.map encStr) (rs:=rs) (i:=k) (by rw[aE];omega) (by rw[aE];omega);rw[aE]at h1;rw[h1]
   ·refine(Any2.slices_Insert_string_grow L b 0 xs.length c k vb 0 vs.length vc (xs.map encStr) (vs.map encStr) w0 hk hm1 b1 (by omega) (by omega) (by simp) (by simp) hcell hvs (yaP xs) (yaP vs)).mono ?_;rintro e w' ⟨rfl,rfl⟩;have hge:=grownCap_ge w0 (xs.length+vs.length) c (ρ.t 9);generalize hG:grownCap w0 (xs.length+vs.length) c (ρ.t 9)=GC at hge;have hA0:=zaQ w0 (.cells (((xs.map encStr).take k).toArray++Builtin.zeroCells (Value.string ⟨#[]⟩).cells (xs.length+vs.length-k)++Builtin.zeroCells (Value.string ⟨#[]⟩).cells (GC-(xs.length+vs.length))) (ρ.t 9));have hA:(w0.alloc (.cells (((xs.map encStr).take k).toArray++Builtin.zeroCells (Value.string ⟨#[]⟩).cells (xs.length+vs.length-k)++Builtin.zeroCells (Value.string ⟨#[]⟩).cells (GC-(xs.length+vs.length))) (ρ.t 9))).drew.heap[w0.heap.size]? = some (.cells ((xs.map encStr).take k++(Builtin.zeroCells (Value.string ⟨#[]⟩).cells (xs.length+vs.length-k)).toList++(Builtin.zeroCells (Value.string ⟨#[]⟩).cells (GC-(xs.length+vs.length))).toList).toArray (ρ.t 9) (0,0)):=by refine Eq.trans hA0 ?_;congr 2;apply dP;simp
    have e1:=Ext.trans (Ext.alloc w0 (.cells (((xs.map encStr).take k).toArray++Builtin.zeroCells (Value.string ⟨#[]⟩).cells (xs.length+vs.length-k)++Builtin.zeroCells (Value.string ⟨#[]⟩).cells (GC-(xs.length+vs.length))) (ρ.t 9))) (Ext.drew _);generalize (w0.alloc (.cells (((xs.map encStr).take k).toArray++Builtin.zeroCells (Value.string ⟨#[]⟩).cells (xs.length+vs.length-k)++Builtin.zeroCells (Value.string ⟨#[]⟩).cells (GC-(xs.length+vs.length))) (ρ.t 9))).drew=W1 at hA e1 ⊢;have hZ1:=hz1 (xs.length+vs.length-k);have hZ2:=hz1 (GC-(xs.length+vs.length));generalize (Builtin.zeroCells (Value.string ⟨#[]⟩).cells (xs.length+vs.length-k)).toList=Z1 at hA hZ1;generalize (Builtin.zeroCells (Value.string ⟨#[]⟩).cells (GC-(xs.length+vs.length))).toList=Z2 at hA hZ2;have hTk:((xs.map encStr).take k).length=k:=by rw[bA,aE];omega
    obtain⟨s1,s2,s3,s4,s5,s6⟩:=setCells_at (vs.map encStr) k W1 _ hA (by simp only[aC,hTk,hZ1,hZ2,aE];omega);obtain⟨t1,t2,t3,t4,t5,t6⟩:=setCells_at ((xs.map encStr).drop k) (k+vs.length) (W1.setCells w0.heap.size k (vs.map encStr)).drew _ s1 (by rw[ztI];simp only[aC,hTk,hZ1,hZ2,bH,aE];omega);have hx:Ext w0 ((W1.setCells w0.heap.size k (vs.map encStr)).drew.setCells w0.heap.size (k+vs.length) ((xs.map encStr).drop k)):=by
     refine⟨t4.trans (s4.trans e1.os),t5.trans (s5.trans e1.tape),t6.trans (s6.trans e1.output),?_,fun j hj=>?_⟩
     ·rw[t3];exact bC e1.size (Nat.le_of_eq s3.symm)
     ·rw[t2 j (by omega)];exact(s2 j (by omega)).trans (e1.block j hj)
    have:=fresh (cs':=(xs.map encStr).take k++vs.map encStr++(xs.map encStr).drop k) (rs':=Z2) (cap:=GC) hx (by
     rw[t1];congr 3;apply bS;intro j;rw[zkA,zkA,ztI,aE];simp only[aC,hTk,hZ1,hZ2,bH,aE];by_cases h1:j<k
     ·rw[zH (by omega),zH (by omega)];rw[aU,aU,aU,aH (by omega),aH (by omega)]
     ·by_cases h2:j<k+vs.length
      ·rw[zH (by omega),zI ⟨by omega,h2,by omega⟩,aU,aU,aJ (by omega),hTk,aH (by rw[aE];omega)]
      ·by_cases h3:j<xs.length+vs.length
       ·rw[zI ⟨by omega,by omega,by omega⟩,aU,aU,aJ (by omega),hTk,aJ (by rw[aE];omega),aE,aH (by rw[bH,aE];omega)];congr 1;omega
       ·rw[zH (by omega),zH (by omega),aJ (by rw[aC,hTk,hZ1];omega),aC,hTk,hZ1,aJ (by simp only[aC,hTk,bH,aE];omega)];congr 1
        simp only[aC,hTk,bH,aE];omega) (by rw[<-hmap,aE]) hmap.symm (by rw[hlen];exact hge) (by simp only[aC,hTk,hZ2,bH,aE];omega)
    rw[hlen]at this;exact this
end
end Go.Proofs.YtopanhneegpgcaaGreatDoor.Am
