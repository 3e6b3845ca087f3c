/- Parts of one proof. Conditions: as each theorem says. -/
import Derived.Stop.LaidErr
import Derived.Test.YtopanhneegpgcaaGreatDoorQkO
open Bool renaming false_and->fN,not_false->eO,not_true->aW,true_and->cP
open Int renaming le_refl->gQ
open List renaming getElem_mem->bT,length_map->aI,mem_cons->aL,mem_cons_self->aO,mem_map->bF
open Nat renaming le_trans->aY
open Option renaming bind->aP
open Go.Proofs.Tryz renaming prog->aB
namespace Go.Proofs.YtopanhneegpgcaaGreatDoor.Am
open Go Go.RowKit
theorem xdI{τ:Type}(em:PS->τ){v:List Opr}(hv:∀o∈v,Opok o)(hl:v.length<=1048576){B:Int}(hB1:1<=B)(hB:B<=1048577){s:PS}(hs:PInv B s){body:Int×τ->Option ((Int×τ)⊕τ)} (hb:∀(i:Nat) (hi:i<v.length) (t:PS) r,zdK zaB v[i] t.1 t.2.1 t.2.2.1 t.2.2.2.1 t.2.2.2.2=some r->body ((i:Int),em t)=some (.inl (((i+1:Nat):Int),em r.2))) (he:∀t,body ((v.length:Int),em t)=some (.inr (em t))):
  iter body ((0:Int),em s)=some (em (playE v s)):=by
 have key:∀(f i:Nat) (C:Int) (t:PS),f+i=v.length->1<=C->C+f<=1099511627776->PInv C t->∀g,f<g->zrW body g ((i:Int),em t)=some (em (playE (v.drop i) t)):=by
  intro f;induction f with
  |zero=>
   intro i C t hi _ _ _ g hg;obtain⟨g,rfl⟩:∃m,g=m+1:=⟨g-1,by omega⟩;have hi:i=v.length:=by omega
   subst hi;rw[zeS (he t),List.drop_length];rfl
  |succ f ih=>
   intro i C t hi hC hf ht g hg;obtain⟨g,rfl⟩:∃m,g=m+1:=⟨g-1,by omega⟩;have hlt:i<v.length:=by omega
   have hd:=does_ok (show C<=1099511627776 by omega) ht (hv _ (bT hlt));rw[zdP (hb i hlt t _ hd),ih (i+1) (C+1) _ (by omega) (by omega) (by omega) (ywA hC ht _) g (by omega),List.drop_eq_getElem_cons hlt];rfl
 exact key v.length 0 B s (by omega) hB1 (by omega) hs FU (by unfold FU;omega)
theorem ysZ{γ β:Type}{n:Nat}(hn:n<=1048576){x:L8}{g:γ}{b:β}{body:Int×List L8×γ->Option ((Int×List L8×γ)⊕β)} (hb:∀(i:Nat) (l:List L8),l.length=n->i<n->body ((i:Int),l,g)=some (.inl (((i+1:Nat):Int),l.set i x,g))) (he:∀l:List L8,l.length=n->body ((n:Int),l,g)=some (.inr b)) (l:List L8) (hl:l.length=n):iter body ((0:Int),l,g)=some b:=by
 have key:∀(f i:Nat) (l:List L8),l.length=n->f+i=n->∀k,f<k->zrW body k ((i:Int),l,g)=some b:=by
  intro f;induction f with
  |zero=>
   intro i l hl hi k hk;obtain⟨k,rfl⟩:∃m,k=m+1:=⟨k-1,by omega⟩;have hi:i=n:=by omega
   subst hi;exact zeS (he l hl)
  |succ f ih=>intro i l hl hi k hk;obtain⟨k,rfl⟩:∃m,k=m+1:=⟨k-1,by omega⟩;rw[zdP (hb i l hl (by omega))];exact ih (i+1) _ (by rw[List.length_set];exact hl) (by omega) k (by omega)
 exact key n 0 l hl (by omega) FU (by unfold FU;omega)
theorem ytC{α:Type}{l:List α}{k:Nat}{x:α}(h:k<l.length):setL l (k:Int) x=some (l.set k x):=by unfold setL;rw[zA (show(0:Int)<=(k:Int) by omega),zA (show(k:Int)<(l.length:Int) by omega)];rfl
theorem chk_n{i n:Nat}(h:i<n):chk (decide ((0:Int)<=(i:Int))&&decide ((i:Int)<(n:Int)))=some ():=by rw[zA (show(0:Int)<=(i:Int) by omega),zA (show(i:Int)<(n:Int) by omega)];rfl
theorem putR2_ok{n:L8}{l:List L8}(hr:l.length<=1048576)(s:PS):zdU zaB n l s.1 s.2.1 s.2.2.1 s.2.2.2.1 s.2.2.2.2=some ((ynF (n,l) s).1,l,(ynF (n,l) s).2):=by
 have hc:zkW zaB n l=some (n,l,l):=by show aP (aP (app ([]:List L8) l) fun r=>some (l,r)) _=_;rw[zjI _ (by omega)];rfl
 unfold zdU zkQ ynF;rw[yzT (r:=(n,l)) hr,zaA];cases yjE (n,l) with
 |false=>rfl|true=>
  simp only[aW,zF];cases mhas keqS s.2.2.1 n with
  |true=>simp only[aW,zF,zaA,fN];rw[hc,zaA]|false=>
   simp only[eO,zE,cP];by_cases h:32<=s.2.2.1.length
   ·rw[zfQ (show(s.2.2.1.length:Int)≥32 by omega),zA h];rfl
   ·rw[zgE (show ¬(s.2.2.1.length:Int)≥32 by omega),zB h,zaA];simp only[zF];rw[hc,zaA]
theorem putC2_ok{a x:L8}{l m:List L8}{b c d e:Bool}(h0:x.length<=1048576)(h1:l.length<=1048576)(h2:m.length<=1048576)(s:PS):zcP zaB a x b c d e l m s.1 s.2.1 s.2.2.1 s.2.2.2.1 s.2.2.2.2=some ((ymD (a,x,l,m,b,c,d,e) s).1,l,m,(ymD (a,x,l,m,b,c,d,e) s).2):=by
 have hc:zqT zaB a x b c d e l m=some (a,x,l,m,b,c,d,e,l,m):=by show aP (aP (app ([]:List L8) l) fun r=>some (l,r)) _=_;rw[zjI _ (by omega)];show aP (aP (app ([]:List L8) m) fun r=>some (m,r)) _=_;rw[zjI _ (by omega)];rfl
 unfold zcP zjA ymD;rw[cli_ok (c:=(a,x,l,m,b,c,d,e)) h0 h1 h2,zaA];cases cliB (a,x,l,m,b,c,d,e) with
 |false=>rfl|true=>
  simp only[aW,zF];cases mhas keqS s.2.2.2.1 a with
  |true=>simp only[aW,zF,zaA,fN];rw[hc,zaA]|false=>
   simp only[eO,zE,cP];by_cases h:32<=s.2.2.2.1.length
   ·rw[zfQ (show(s.2.2.2.1.length:Int)≥32 by omega),zA h];rfl
   ·rw[zgE (show ¬(s.2.2.2.1.length:Int)≥32 by omega),zB h,zaA];simp only[zF];rw[hc,zaA]
theorem ynJ(n:Nat):zjM zaB n=some n:=by unfold zjM;rw[zA (rfl:(n:Int)=(n:Int))];rfl
theorem yrH{l:List L8}(h:l.length<=1048576):((fun(xs:List Bs)=>aP (app ([]:List Bs) xs) fun r=>some r.length) l)=some l.length:=by show aP (app ([]:List L8) l) _=_;rw[zjI _ (by omega)];rfl
def grJ(s:PS):List (L8×Nat×Nat×Nat×Int):=s.2.1.map fun p=>(p.1,p.2.1.1.length,p.2.1.2.1.length,p.2.1.2.2.length,p.2.2)
def clJ(s:PS):List (L8×L8×Nat×Nat×Bool×Bool×Bool×Bool):=s.2.2.2.1.map fun p=>(p.2.1,p.2.2.1,p.2.2.2.1.length,p.2.2.2.2.1.length,p.2.2.2.2.2)
theorem ywS{B:Int}{s:PS}(h:PInv B s):zeJ zaB s.1 s.2.1 s.2.2.1 s.2.2.2.1 s.2.2.2.2=some (s.1,s.2.1,s.2.2.1,s.2.2.2.1,s.2.2.2.2,grJ s):=by
 have hl:=h.gL;unfold zeJ zqV zpZ;rw[ykO (by omega),zaA,mk0,zaA,zaA,zrX h.gR (by omega) fun p hp=>aY (zkD (h.gn p.1 p.2 hp).1) (by decide),zaA];rw[zvO (es:=s.2.1) (tell:=fun p:L8×Gr=>(p.1,p.2.1.1.length,p.2.1.2.1.length,p.2.1.2.2.length,p.2.2)) (by omega) (fun i hi acc ha=>?_) fun acc=>?_,zaA,zaA]
 ·rfl
 ·have hm:(s.2.1[i].1,s.2.1[i].2)∈s.2.1:=bT hi;have e:∀l:List L8,l.length<=64->zfM zaB l=some l.length:=fun l hl=>by unfold zfM;rw[yrH (by omega),zaA,ynJ,zaA]
  unfold zoX;simp only;rw[zfQ (by rw[aI];omega),yjY hi,zaA,get_at h.gR hi];unfold zwJ;rw[e s.2.1[i].2.1.1 (h.lst_len hm (i:=0) (by decide)),zaA,e s.2.1[i].2.1.2.1 (h.lst_len hm (i:=1) (by decide)),zaA,e s.2.1[i].2.1.2.2 (h.lst_len hm (i:=2) (by decide)),zaA,zaA,zjP (by simp;omega),zaA,zoU (by omega)]
 ·unfold zoX;simp only;rw[zgE (by rw[aI];omega)]
theorem yrO{B:Int}{s:PS}(h:PInv B s):zdN zaB s.1 s.2.1 s.2.2.1 s.2.2.2.1 s.2.2.2.2=some (s.1,s.2.1,s.2.2.1,s.2.2.2.1,s.2.2.2.2,clJ s):=by
 have hl:=h.cL;unfold zdN zrC zqF
 rw[ykO (by omega),zaA,mk0,zaA,zaA,zrX h.cR (by omega) fun p hp=>by
  have h1:=h.cl p.1 p.2 hp;have h2:=cli_nm h1.2;rw[h1.1]at h2
  exact aY (zkD h2) (by decide),zaA]
 rw[zvO (es:=s.2.2.2.1) (tell:=fun p:L8×Cl=>(p.2.1,p.2.2.1,p.2.2.2.1.length,p.2.2.2.2.1.length,p.2.2.2.2.2)) (by omega) (fun i hi acc ha=>?_) fun acc=>?_,zaA,zaA]
 ·rfl
 ·have hm:(s.2.2.2.1[i].1,s.2.2.2.1[i].2)∈s.2.2.2.1:=bT hi;have h1:=ylK (h.cl _ _ hm).2;unfold zoZ;simp only;rw[zfQ (by rw[aI];omega),yjY hi,zaA,get_at h.cR hi];unfold zfY zsF;rw[yrH (by omega),zaA,ynJ,zaA,yrH (by omega),zaA,ynJ,zaA,zaA,zaA,zjP (by simp;omega),zaA,zoU (by omega)]
 ·unfold zoZ;simp only;rw[zgE (by rw[aI];omega)]
theorem over1_ok{l m k:List L8}(hl:l.length<=1048576)(s:PS):iter (fun x:Int×List L8×List L8×List L8×PS=>zcA zaB x.1 x.2.1 x.2.2.1 x.2.2.2.1 x.2.2.2.2.1 x.2.2.2.2.2.1 x.2.2.2.2.2.2.1 x.2.2.2.2.2.2.2.1 x.2.2.2.2.2.2.2.2) ((0:Int),l,m,k,s)=some (m,k,s):=
 ysZ hl (x:=[111,118,101,114]) (fun i l' hl' hi=>by
  simp only;unfold zcA
  rw[zfQ (by omega),zuY (by omega),zaA,ytC (by omega),zaA,zoU (by omega)]) (fun l' hl'=>by
  simp only;unfold zcA
  rw[zgE (by omega)]) l rfl
theorem over2_ok{l m:List L8}(hl:l.length<=1048576)(s:PS):iter (fun x:Int×List L8×List L8×PS=>zcD zaB x.1 x.2.1 x.2.2.1 x.2.2.2.1 x.2.2.2.2.1 x.2.2.2.2.2.1 x.2.2.2.2.2.2.1 x.2.2.2.2.2.2.2) ((0:Int),l,m,s)=some (m,s):=
 ysZ hl (x:=[111,118,101,114]) (fun i l' hl' hi=>by
  simp only;unfold zcD
  rw[zfQ (by omega),zuY (by omega),zaA,ytC (by omega),zaA,zoU (by omega)]) (fun l' hl'=>by
  simp only;unfold zcD
  rw[zgE (by omega)]) l rfl
theorem over3_ok{l:List L8}(hl:l.length<=1048576)(s:PS):iter (fun x:Int×List L8×PS=>zbZ zaB x.1 x.2.1 x.2.2.1 x.2.2.2.1 x.2.2.2.2.1 x.2.2.2.2.2.1 x.2.2.2.2.2.2) ((0:Int),l,s)=some s:=
 ysZ hl (x:=[111,118,101,114]) (fun i l' hl' hi=>by
  simp only;unfold zbZ
  rw[zfQ (by omega),zuY (by omega),zaA,ytC (by omega),zaA,zoU (by omega)]) (fun l' hl'=>by
  simp only;unfold zbZ
  rw[zgE (by omega)]) l rfl
theorem over6_ok{g:List (L8×Nat×Nat×Nat×Int)}(hg:g.length<=1048576)(hn:∀x∈g,x.2.1<=1048576/\x.2.2.1<=1048576)(s:PS):iter (fun x:Int×List (L8×Nat×Nat×Nat×Int)×PS=>zcC zaB x.1 x.2.1 x.2.2.1 x.2.2.2.1 x.2.2.2.2.1 x.2.2.2.2.2.1 x.2.2.2.2.2.2) ((0:Int),g,s)=some s:=by
 refine ypC (n:=g.length) hg (g,s) (fun i hi=>?_) ?_
 ·obtain⟨h1,h2⟩:=hn _ (bT hi);simp only;unfold zcC;rw[zfQ (by omega)]
  rw[show iter _ ((0:Int),g,s.1,s.2.1,s.2.2.1,s.2.2.2.1,s.2.2.2.2)=_ from ypC (n:=g[i].2.1) h1 (g,s) (b:=(g,s)) (fun j hj=>by
   simp only;unfold zdX
   rw[zuY hi,zaA,zhZ rfl hi,zaA,zfQ (by omega),zaA,zaA,chk_n hj,zaA,zoU (by omega)]) (by
   simp only;unfold zdX
   rw[zuY hi,zaA,zhZ rfl hi,zaA,zgE (by omega)]),zaA]
  rw[show iter _ ((0:Int),(g,s))=_ from ypC (n:=g[i].2.2.1) h2 (g,s) (b:=(g,s)) (fun j hj=>by
   simp only;unfold zdY
   rw[zuY hi,zaA,zhZ rfl hi,zaA,zfQ (by omega),zaA,zaA,chk_n hj,zaA,zoU (by omega)]) (by
   simp only;unfold zdY
   rw[zuY hi,zaA,zhZ rfl hi,zaA,zgE (by omega)]),zaA,zoU (by omega)]
 ·simp only;unfold zcC;rw[zgE (by omega)]
theorem over8_ok{g:List (L8×L8×Nat×Nat×Bool×Bool×Bool×Bool)}(hg:g.length<=1048576)(hn:∀x∈g,x.2.2.2.1<=1048576)(s:PS):iter (fun x:Int×List (L8×L8×Nat×Nat×Bool×Bool×Bool×Bool)×PS=>zcB zaB x.1 x.2.1 x.2.2.1 x.2.2.2.1 x.2.2.2.2.1 x.2.2.2.2.2.1 x.2.2.2.2.2.2) ((0:Int),g,s)=some s:=by
 refine ypC (n:=g.length) hg (g,s) (fun i hi=>?_) ?_
 ·have h1:=hn _ (bT hi);simp only;unfold zcB;rw[zfQ (by omega)]
  rw[show iter _ ((0:Int),g,s.1,s.2.1,s.2.2.1,s.2.2.2.1,s.2.2.2.2)=_ from ypC (n:=g[i].2.2.2.1) h1 (g,s) (b:=(g,s)) (fun j hj=>by
   simp only;unfold zdZ
   rw[zuY hi,zaA,zhZ rfl hi,zaA,zfQ (by omega),zaA,zaA,chk_n hj,zaA,zoU (by omega)]) (by
   simp only;unfold zdZ
   rw[zuY hi,zaA,zhZ rfl hi,zaA,zgE (by omega)]),zaA,zoU (by omega)]
 ·simp only;unfold zcB;rw[zgE (by omega)]
theorem yyH(v0:List Opr)(v1:Ro)(v2:Cl)(hk:dsz (.sl opT) v0+(dsz (.pr .s (.sl .s)) v1+dsz (.pr .s (.pr .s (.pr (.sl .s) (.pr (.sl .s) (.pr .b (.pr .b (.pr .b .b))))))) v2)<=1048576):zeN zaB v0 v1 v2=some true:=by
 obtain⟨hv,hl⟩:=ops_of (v:=v0) (k:=1048576) (by omega) (Nat.le_refl _);obtain⟨n,q⟩:=v1;obtain⟨a,x,l,m,b,c,d,e⟩:=v2;have hk:dsz (.sl opT) v0+(n.length+1+dsz (.sl .s) q+(a.length+1+(x.length+1+(dsz (.sl .s) l+(dsz (.sl .s) m+(1+(1+(1+1))))))))<=1048576:=hk;have h1:q.length+1<=dsz (.sl .s) q:=zyR (e:=.s) rfl _;have h2:l.length+1<=dsz (.sl .s) l:=zyR (e:=.s) rfl _;have h3:m.length+1<=dsz (.sl .s) m:=zyR (e:=.s) rfl _;have hs:=yvM v0 1 s0 (gQ _) xdH;have hB:(1:Int)+v0.length<=1048577:=by omega
 unfold zeN
 rw[new_ok,zaA,show iter _ ((0:Int),n,q,a,x,l,m,b,c,d,e,s0)=_ from xdI (fun t=>(n,q,a,x,l,m,b,c,d,e,t)) hv hl (B:=1) (gQ _) (by decide) xdH (fun i hi t r hr=>by
  simp only;unfold zdV
  rw[zfQ (by omega),zhZ rfl hi,zaA,hr,zaA,zoU (by omega)]) (fun t=>by
  simp only;unfold zdV
  rw[zgE (by omega)]),zaA]
 generalize playE v0 s0=s at hs ⊢;generalize (1:Int)+v0.length=B at hs hB;simp only;rw[zjI _ (by omega),zaA,zjI _ (by omega),zaA,zjI _ (by omega),zaA,putR2_ok (by omega),zaA];have i1:=ytT (r:=(n,q)) hs;generalize (ynF (n,q) s).2=t at i1 ⊢;simp only;rw[putC2_ok (by omega) (by omega) (by omega),zaA];have i2:=yuX (c:=(a,x,l,m,b,c,d,e)) i1;generalize (ymD (a,x,l,m,b,c,d,e) t).2=u at i2 ⊢;simp only;rw[rows_ok (by omega) i2,zaA];simp only;rw[show iter _ ((0:Int),q,l,m,u)=_ from over1_ok (by omega) u,zaA,show iter _ ((0:Int),l,m,u)=_ from over2_ok (by omega) u,zaA,show iter _ ((0:Int),m,u)=_ from over3_ok (by omega) u,zaA];rw[ywS i2,zaA];simp only
 rw[show iter _ ((0:Int),grJ u,u.1,u.2.1,u.2.2.1,u.2.2.2.1,u.2.2.2.2)=_ from over6_ok (by unfold grJ;rw[aI];exact aY i2.gL (by decide)) (fun y hy=>by
  obtain⟨p,hp,rfl⟩:=bF.1 hy
  exact⟨aY (i2.lst_len (k:=p.1) (g:=p.2) hp (i:=0) (by decide)) (by decide),aY (i2.lst_len (k:=p.1) (g:=p.2) hp (i:=1) (by decide)) (by decide)⟩) u,zaA]
 rw[yrO i2,zaA];simp only
 rw[show iter _ ((0:Int),clJ u,u.1,u.2.1,u.2.2.1,u.2.2.2.1,u.2.2.2.2)=_ from over8_ok (by unfold clJ;rw[aI];exact aY i2.cL (by decide)) (fun y hy=>by
  obtain⟨p,hp,rfl⟩:=bF.1 hy
  exact aY (ylK (i2.cl p.1 p.2 hp).2).2 (by decide)) u,zaA]
 rw[rows_ok (by omega) i2,zaA];simp only;rw[yzH _ (yyP i2),zaA];rfl
end Go.Proofs.YtopanhneegpgcaaGreatDoor.Am
namespace Go.Proofs.YtopanhneegpgcaaGreatDoor
open Go Go.RowKit
section
open Go Go.RowKit Go.ChangeShapes Go.WideShapes Go.ChangeAt
attribute [local irreducible] Value.okWide
theorem tabs_of{W:World}(h:W.ShapedOpen aB)(hL:laidMet aB Rows.peopleKeepsUptoRow.laid W):∃G:List (Nat×Obj),Am.zoW G/\Am.GS G (ybZ W)/\(G.all fun p=>!isJ p.2)=true:=by
 obtain⟨m,hm⟩:=Tryz.laysM219.s1_3 W h;have hm:W.cell? ⟨0,0,none⟩=some (.int .i64 m):=hm;have h0:∃c E fz,W.heap[0]? = some (.cells c E fz)/\c[0]? = some (.int .i64 m):=by
  unfold World.cell? at hm;split at hm
  ·rename_i c E fz hb;simp only[Option.isSome_none,zH (show ¬(false=true) by decide)]at hm;exact⟨c,E,fz,hb,hm⟩
  ·cases hm
 obtain⟨c,E,fz,h1,h2⟩:=h0;have hT := Lib.tabIs_of_head (P := aB) (k := .u64) (zs := Lib.pow10Tab) (g := 3) (t := 298) (e := 249) (n := 20) (by kernel_rfl) (by kernel_rfl) (by kernel_rfl) (by kernel_rfl) (by kernel_rfl) (by kernel_rfl) (show laidMet aB (("internal/strconv.uint64pow10", Lib.tabData .u64 Lib.pow10Tab) :: _) W from hL.tail.tail);have h3:∃T f,W.heap[3]? = some (.cells xcR.toArray T f):=by
  unfold Lib.TabIs World.var? at hT;rw [show Tryz.prog.globalNamed "internal/strconv.uint64pow10" = some 3 by kernel_rfl, Option.bind_some] at hT;split at hT
  ·rename_i cs T f hb;cases hT;exact⟨T,f,hb⟩
  ·cases hT
 obtain⟨T,f,h4⟩:=h3;refine⟨[(0,.cells c E fz),(3,.cells xcR.toArray T f)],⟨fun S hS=>⟨⟨c,E,fz,m,hS _ (aO ..),h2⟩,T,f,hS _ (List.mem_cons_of_mem _ (aO ..))⟩⟩,fun p hp=>?_,rfl⟩;rcases aL.1 hp with rfl|hp
 ·exact ygI h1 rfl
 ·rcases aL.1 hp with rfl|hp
  ·exact ygI h4 rfl
  ·cases hp
theorem yaX(H:Type)(enc:TypeId×Value->H)(W:World)(base:Nat)(args:Array Value)(ds gs:List (DataW H))(before:List MemPlace) (hval:∀(j:Nat) t v,Tryz.f8.params[j]? = some t->args[j]? = some v->Value.okWide aB W .any base t v) (hW:DataW.Whole enc aB Tryz.f8.params.toList Rows.peopleKeepsSpec.vars false W args.toList ds gs before) (hk:Rows.uptoSmall H (ds++gs)=true) (hsh:W.ShapedOpen aB) (hL:laidMet aB Rows.peopleKeepsUptoRow.laid W):Calls aB 8 args W fun e W'=>∃v,e = .returned v/\Rows.peopleKeepsSpec.post enc aB Tryz.f8 false true false false W args v W':=by
 have hW':=hW;obtain⟨p,q,hA0,hV,rfl,_,_⟩:=hW;have hA:DataW.TrodAll enc aB W 0 (fun _=>true) true Tryz.f8.params.toList args.toList ds p:=hA0;rw[Tryz.params8]at hA hval;obtain⟨v0,vs0,d0,ds0,p0,q0,hargs,rfl,rfl,t0,r0⟩:=trodAll_cons hA;obtain⟨v1,vs1,d1,ds1,p1,q1,rfl,rfl,rfl,t1,r1⟩:=trodAll_cons r0;obtain⟨v2,vs2,d2,ds2,p2,q2,rfl,rfl,rfl,t2,r2⟩:=trodAll_cons r1;obtain⟨rfl,rfl,rfl⟩:=trodAll_nil r2;obtain rfl:args = #[v0,v1,v2]:=by cases args;simp_all
 obtain⟨rfl,rfl⟩:=trodVars_none hV;obtain⟨x0,e0,b0⟩:=Am.argD_ok (t:=(.sl Am.opT)) (show Am.argOk aB 45 (.sl Am.opT)=true by kernel_rfl) (hval 0 45 v0 rfl rfl) t0;obtain⟨x1,e1,b1⟩:=Am.argD_ok (t:=(.pr .s (.sl .s))) (show Am.argOk aB 49 (.pr .s (.sl .s))=true by kernel_rfl) (hval 1 49 v1 rfl rfl) t1;obtain⟨x2,e2,b2⟩:=Am.argD_ok (t:=(.pr .s (.pr .s (.pr (.sl .s) (.pr (.sl .s) (.pr .b (.pr .b (.pr .b .b)))))))) (show Am.argOk aB 51 (.pr .s (.pr .s (.pr (.sl .s) (.pr (.sl .s) (.pr .b (.pr .b (.pr .b .b)))))))=true by kernel_rfl) (hval 2 51 v2 rfl rfl) t2;simp only[List.cons_append,List.nil_append,List.append_nil,Rows.uptoSmall,zD,Rows.uptoBulkAll]at hk;obtain⟨G,hG,hGS,hGJ⟩:=tabs_of hsh hL;refine((Am.yfQ (tabs:=G) (o:=Am.zaB) hGJ).ok (ybZ W) W [v0,v1,v2] (x0,x1,x2) true hGS (subMem W) (.cons (Am.rep1_vr e0) (.cons (Am.rep1_vr e1) (.cons (Am.rep1_vr e2) .nil))) (Am.yyH x0 x1 x2 (by omega))).mono fun e W' ⟨hx,v,he,hr,_⟩=>?_;have hr:[v]=[Value.bool true]:=hr;rw[(List.cons.inj hr).1]at he;subst he;refine⟨_,rfl,law_post (B:=4) (n:=3) (by kernel_rfl) rfl (by kernel_rfl) (by kernel_rfl) (by kernel_rfl) (by kernel_rfl) (fun ds hds=>?_) hW' hx⟩
 match ds,hds with
 |[x0,x1,x2],_=>exact⟨rfl,rfl,rfl⟩
theorem own_none:ownKnob Tryz.prog.godebug=none:=by kernel_rfl
def ykG:DataW Unit->LV
 |.lit (.int k n)=>[.int k n]|.agg l=>go l|_=>[]
where go:List (DataW Unit)->LV
 |[]=>[]|d::l=>ykG d++go l
def zvY(l:LV):Obj->Obj
 |.cells _ t frozen=>.cells l.toArray t frozen|o=>o
noncomputable def yiS(os:Os):World:={ World.holding aB os ⟨#[],#[],[]⟩with heap:=(((((((((World.holding aB os ⟨#[],#[],[]⟩).heap).modify 6 (zvY (ykG Rows.laid_math_bits_deBruijn32tab))).modify 7 (zvY (ykG Rows.laid_math_bits_deBruijn64tab))).modify 3 (zvY (ykG Rows.laid_internal_strconv_uint64pow10))).modify 5 (zvY (ykG Rows.laid_unicode_utf8_acceptRanges))).modify 2 (zvY [.iface 312 (.pointer (some ⟨(World.holding aB os ⟨#[],#[],[]⟩).heap.size+0,0,none⟩))])).modify 1 (zvY [.iface 312 (.pointer (some ⟨(World.holding aB os ⟨#[],#[],[]⟩).heap.size+1,0,none⟩))])).modify 4 (zvY (ykG Go.Pinned.utf8First))) ++ #[.cells #[.string ⟨#[118,97,108,117,101,32,111,117,116,32,111,102,32,114,97,110,103,101]⟩] 314,.cells #[.string ⟨#[105,110,118,97,108,105,100,32,115,121,110,116,97,120]⟩] 314] }
theorem yaU(os:Os):laidMet aB Rows.peopleKeepsUptoRow.laid ((yiS os).forCall (fun _ _=>0) ⟨#[],#[.slice none 0 0,.agg #[.string ⟨#[]⟩,.slice none 0 0],.agg #[.string ⟨#[]⟩,.string ⟨#[]⟩,.slice none 0 0,.slice none 0 0,.bool false,.bool false,.bool false,.bool false]],[]⟩).memory:=
 laidMet_of_run' 8 (by kernel_rfl) (by kernel_rfl)
theorem yeQ(os:Os){H:Type}(enc:TypeId×Value->H):∃places,DataW.whole enc aB ((yiS os).forCall (fun _ _=>0) ⟨#[],#[.slice none 0 0,.agg #[.string ⟨#[]⟩,.slice none 0 0],.agg #[.string ⟨#[]⟩,.string ⟨#[]⟩,.slice none 0 0,.slice none 0 0,.bool false,.bool false,.bool false,.bool false]],[]⟩).memory Tryz.f8.params.toList Rows.peopleKeepsSpec.vars false (#[.slice none 0 0,.agg #[.string ⟨#[]⟩,.slice none 0 0],.agg #[.string ⟨#[]⟩,.string ⟨#[]⟩,.slice none 0 0,.slice none 0 0,.bool false,.bool false,.bool false,.bool false]]:Array Value).toList 8=some ([.nil,.agg [.lit (.string []),.nil],.agg [.lit (.string []),.lit (.string []),.nil,.nil,.lit (.bool false),.lit (.bool false),.lit (.bool false),.lit (.bool false)]],[],places):=
 ⟨[],by kernel_rfl⟩
set_option maxRecDepth 100000 in
theorem ycM(os:Os)(started:os.Started)(H:Type)(enc:TypeId×Value->H)(F:Stop.Interp):
  ReturnsInHanded {} Tryz.checked os 8 .any ((Rows.OpenSpec.upto Rows.peopleKeepsSpec).preRow enc aB Tryz.f8 Rows.peopleKeepsUptoRow.domain false Rows.peopleKeepsUptoRow.laid) (((Rows.OpenSpec.upto Rows.peopleKeepsSpec).at F).post enc aB Tryz.f8 false true false false):=by
 obtain⟨places,hx⟩:=yeQ os enc
 refine returnsInHanded_of_row (C:=Tryz.checked) (s:=Rows.OpenSpec.upto Rows.peopleKeepsSpec) own_none started (by kernel_rfl) Tryz.func8
  (witness_row_at (enc:=enc) (C:=Tryz.checked) false (yiS os) #[.slice none 0 0,.agg #[.string ⟨#[]⟩,.slice none 0 0],.agg #[.string ⟨#[]⟩,.string ⟨#[]⟩,.slice none 0 0,.slice none 0 0,.bool false,.bool false,.bool false,.bool false]] rfl (by kernel_rfl) (by kernel_rfl) (by kernel_rfl)
   (OpenSpec.preRow_of_cond 8 hx (by kernel_rfl) (fun k hk=>by cases hk;kernel_rfl) (by kernel_rfl) (yaU os))) ?_
 intro W base args ds gs before hval hW _ hcond _ hL hsh _;exact yaX H enc W base args ds gs before hval hW (hcond _ rfl) hsh hL
set_option maxRecDepth 100000 in
set_option maxHeartbeats 40000000 in
theorem yeN:joinedFacts Tryz.pinned.checked.prog 8 Tryz.f8 (Rows.OpenSpec.upto Rows.peopleKeepsSpec).bare Rows.peopleKeepsUptoRow=true:=by
 simp only[joinedFacts,Bool.and_eq_true]
 repeat' refine And.intro ?_ ?_
 all_goals (as_aux_lemma=>kernel_rfl)
theorem yhD:Rows.PeopleKeepsUptoSaid:=
 OpenClaim.holds_of_cond 8 Tryz.f8 rfl rfl rfl rfl rfl rfl rfl ⟨rfl,rfl,rfl,rfl,rfl⟩ rfl rfl rfl rfl rfl (by kernel_rfl) Tryz.func8 yeN
  (zC (by kernel_rfl)) (by unfold Func.isWrapper;first|(rw[zI (by decide +kernel)];kernel_rfl)|(rw[zH (by decide +kernel)];exact⟨rfl,rfl⟩))
  (fun os started H enc _ F=>by rw[OpenClaim.pre_eq_preRow];exact ycM os started H enc F)
theorem yeM (f : FuncId) (fn : Func) (hf : Tryz.pinned.checked.prog.funcNamed "seneschal/seneschallaw12.PeopleKeeps" = some f) (hfn : Tryz.pinned.checked.prog.funcs[f]? = some fn) :
  true=Tryz.pinned.checked.prog.looks []/\∀(j:Nat) t,fn.params[j]? = some t->Tryz.pinned.checked.prog.wantsStandIn t=false:=by
 obtain rfl : f = 8 := osi ((show Tryz.prog.funcNamed "seneschal/seneschallaw12.PeopleKeeps" = some 8 by kernel_rfl).symm.trans hf) |>.symm;obtain rfl:fn=Tryz.f8:=(osi (Tryz.func8.symm.trans hfn)).symm;refine⟨by kernel_rfl,fun j t ht=>?_⟩;rw[Tryz.params8]at ht;have hm:t∈[45,49,51]:=by simpa using Array.mem_of_getElem? ht
 have hall:([45,49,51].all fun u=>!Tryz.prog.wantsStandIn u)=true:=by kernel_rfl
 exact(show Tryz.prog.wantsStandIn t=false by simpa using List.all_eq_true.1 hall t hm)
theorem peopleKeeps_said : Rows.PeopleKeepsUptoCardSaid :=
 Claim7.holds_tied_plain_at .later [] _ _ _ _ yhD (fun _ h=>by cases h) (by as_aux_lemma=>kernel_rfl) (fun _ h=>by cases h) peopleKeepsUpto_row_tie rfl ⟨rfl,rfl⟩ (by as_aux_lemma=>kernel_rfl) rfl yeM (by as_aux_lemma=>kernel_rfl)
end
end Go.Proofs.YtopanhneegpgcaaGreatDoor
