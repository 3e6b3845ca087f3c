/- The law 'seneschallaw12.PeopleDrops' holds of every input whose arguments hold together at most 1048576 values and letters, and its card. Conditions: the row's listed tables hold what the program's text lays; the arguments' bulk is at most 1048576. -/
import Derived.Test.YtopanhneegpgcaaGreatDoorRows
import Derived.Test.YtopanhneegpgcaaGreatDoorTie
import Derived.Test.YtopanhneegpgcaaGreatDoorCards
import Derived.ProofKit
import Derived.OpenShut
import Derived.Carry
import Derived.JoinedCond
import Derived.ChangeMaps5
import Derived.Deep.SlicePairs
import Derived.Deep.DeepHandedRow
import Derived.Lib.LaidTab
import Derived.SevenTiedAt
import Derived.Stop.LaidErr
import Derived.Test.YtopanhneegpgcaaGreatDoorQdN
namespace Go.Proofs.YtopanhneegpgcaaGreatDoor.Am
open Go Go.RowKit
theorem app2(a b:UInt8){n:L8}(h:n.length≤24):app ([a,b]:L8) n=some (a::b::n):=by
 rw[yaW (by simp;omega)];rfl
theorem ysS{B:Int}(hB:B≤1099511627776){s:PS}(h:PInv B s)(n:L8):zcF zaB n s.1 s.2.1 s.2.2.1 s.2.2.2.1 s.2.2.2.2=some (zgI n s):=by
 unfold zcF zuE zgI
 rw[zvY,zaA]
 cases hn:nmB n with
 |false=>rfl
 |true=>
  simp only[Bool.not_true,cond_false]
  cases hh:mhas keqS s.1 n with
  |false=>rfl
  |true=>
   unfold zfG
   simp only[Bool.not_true,cond_false]
   rw[ysZ hB h n (List.Sublist.refl _),zaA,app2 _ _ (zzS hn),zaA,ylJ h.mR,zaA,zaA,zaA]
theorem addG_ok(n:L8)(s:PS):zbT zaB n s.1 s.2.1 s.2.2.1 s.2.2.2.1 s.2.2.2.2=some (xaJ n s):=by
 unfold zbT xaJ
 rw[zvY,zaA]
 cases nmB n with
 |false=>rfl
 |true=>
  simp only[Bool.not_true,cond_false]
  cases mhas keqS s.2.1 n with
  |true=>rfl
  |false=>
   rw[cond_false,cond_false]
   by_cases h:32≤s.2.1.length
   ·rw[zoE (show(s.2.1.length:Int)≥32 by omega),decide_eq_true h];rfl
   ·rw[zrW (show ¬(s.2.1.length:Int)≥32 by omega),decide_eq_false h];rfl
theorem yqT{B:Int}(hB:B≤1099511627776){s:PS}(h:PInv B s)(n:L8):zcA zaB n s.1 s.2.1 s.2.2.1 s.2.2.2.1 s.2.2.2.2=some (zjO n s):=by
 unfold zcA zsJ zjO
 rw[zvY,zaA]
 cases hn:nmB n with
 |false=>rfl
 |true=>
  simp only[Bool.not_true,cond_false]
  cases hh:mhas keqS s.2.1 n with
  |false=>rfl
  |true=>
   unfold zeS
   simp only[Bool.not_true,cond_false]
   rw[yuK hB h n (zpX _ _),zaA,zaA,zaA]
theorem yqM{B:Int}(hB:B≤1099511627776){s:PS}(h:PInv B s)(n:L8):zcC zaB n s.1 s.2.1 s.2.2.1 s.2.2.2.1 s.2.2.2.2=some (zqF n s):=by
 unfold zcC zsM zqF
 rw[zvY,zaA]
 cases hn:nmB n with
 |false=>rfl
 |true=>
  simp only[Bool.not_true,cond_false]
  cases hh:mhas keqS s.2.2.1 n with
  |false=>rfl
  |true=>
   unfold zfH
   simp only[Bool.not_true,cond_false]
   rw[ytB hB h n (List.Sublist.refl _),zaA,zaA,zaA]
theorem ysR{B:Int}{s:PS}(h:PInv B s)(n:L8):zbX zaB n s.1 s.2.1 s.2.2.1 s.2.2.2.1 s.2.2.2.2=some (ztY n s):=by
 unfold zbX zsP ztY
 rw[zvY,zaA]
 cases hn:nmB n with
 |false=>rfl
 |true=>
  simp only[Bool.not_true,cond_false]
  cases hh:mhas keqS s.2.2.2.1 n with
  |false=>rfl
  |true=>
   unfold zeD
   simp only[Bool.not_true,cond_false]
   rw[app2 _ _ (zzS hn),zaA,ylJ h.mR,zaA,zaA,zaA]
def ydM(k:Nat)(n x:L8)(s:PS):Gr×Int×PS:=bif !nmB n || !nmB x then(zG,120,s)else match mget keqS s.2.1 n with
 |none=>(zG,122,s)
 |some g=>bif !hasK k s x then(zG,122,s)else(g,0,s)
theorem yrV(n x:L8)(s:PS):zdD zaB n x s.1 s.2.1 s.2.2.1 s.2.2.2.1 s.2.2.2.2=some (ydM 0 n x s):=by
 unfold zdD znL ydM
 rw[zvY,zaA]
 cases nmB n with
 |false=>rfl
 |true=>
  rw[Bool.not_true,cond_false,zvY,zaA]
  cases nmB x with
  |false=>rfl
  |true=>
   simp only[Bool.not_true,cond_false,zaA,Bool.or_false]
   rw[zeI,zjV]
   cases mget keqS s.2.1 n with
   |none=>rfl
   |some g=>
    simp only[Option.isSome_some,Bool.not_true,cond_false]
    unfold zeH
    rw[zaA]
    simp only[hasK]
    cases mhas keqS s.1 x<;>rfl
theorem xcN{B:Int}(hB:B≤1099511627776){s:PS}(h:PInv B s)(n x:L8):zfJ zaB n x s.1 s.2.1 s.2.2.1 s.2.2.2.1 s.2.2.2.2=some (yfP 0 n x s):=by
 unfold zfJ znH zaR
 rw[zaA,yrV,zaA,zaA]
 unfold ydM yfP
 cases h1:!nmB n || !nmB x with
 |true=>rfl
 |false=>
  simp only[cond_false]
  cases hg:mget keqS s.2.1 n with
  |none=>rfl
  |some g=>
   have hm:=kS.get_some hg
   have hl:RiL g.1.1:=(h.gl n g hm 0 (by decide)).1
   have hn:g.1.1.length≤64:=h.lst_len hm (i:=0) (by decide)
   have hv:=(h.gn n g hm).2
   simp only
   cases h2:hasK 0 s x with
   |false=>rfl
   |true=>
    simp only[Bool.not_true,cond_false]
    unfold znB znG
    simp only[bne_self_eq_false,cond_false,lst]
    rw[show zaV zaB g.1.1 x=_ from ybF x hl (by omega),zaA,zaA]
    simp only
    cases h3:g.1.1.contains x with
    |true=>rfl
    |false=>
     have hx:x∉g.1.1:=fun hx=>by rw[List.contains_iff_mem.2 hx]at h3;cases h3
     simp only[cond_false]
     rw[if_neg fun hh=>absurd hh.1 (by decide),zaA]
     simp only
     unfold znS
     rw[show zeC zaB g.1.1 x=_ from yoW x hl (by omega),zaA,zaA]
     simp only
     rw[show w64 (g.2+1)=g.2+1 from ztN (by omega) (by omega)]
     rfl
theorem yxN{B:Int}(hB:B≤1099511627776){s:PS}(h:PInv B s)(n x:L8):zfN zaB n x s.1 s.2.1 s.2.2.1 s.2.2.2.1 s.2.2.2.2=some (zxL 0 n x s):=by
 unfold zfN znU zaR
 rw[zaA,yrV,zaA,zaA]
 unfold ydM zxL
 cases h1:!nmB n || !nmB x with
 |true=>rfl
 |false=>
  simp only[cond_false]
  cases hg:mget keqS s.2.1 n with
  |none=>rfl
  |some g=>
   have hm:=kS.get_some hg
   have hl:RiL g.1.1:=(h.gl n g hm 0 (by decide)).1
   have hn:g.1.1.length≤64:=h.lst_len hm (i:=0) (by decide)
   have hv:=(h.gn n g hm).2
   simp only
   cases h2:hasK 0 s x with
   |false=>rfl
   |true=>
    simp only[Bool.not_true,cond_false]
    unfold zmX
    simp only[bne_self_eq_false,cond_false,lst]
    rw[show zaV zaB g.1.1 x=_ from ybF x hl (by omega),zaA]
    cases h3:g.1.1.contains x with
    |false=>rfl
    |true=>
     simp only[Bool.not_true,cond_false,zaA]
     unfold znX
     rw[show zaW zaB g.1.1 x=_ from zyW _ x (by omega),zaA,zaA]
     simp only
     rw[show w64 (g.2+1)=g.2+1 from ztN (by omega) (by omega)]
     rfl
theorem ysM(n x:L8)(s:PS):zdV zaB n x s.1 s.2.1 s.2.2.1 s.2.2.2.1 s.2.2.2.2=some (ydM 1 n x s):=by
 unfold zdV zoY ydM
 rw[zvY,zaA]
 cases nmB n with
 |false=>rfl
 |true=>
  rw[Bool.not_true,cond_false,zvY,zaA]
  cases nmB x with
  |false=>rfl
  |true=>
   simp only[Bool.not_true,cond_false,zaA,Bool.or_false]
   rw[zeI,zjV]
   cases mget keqS s.2.1 n with
   |none=>rfl
   |some g=>
    simp only[Option.isSome_some,Bool.not_true,cond_false]
    unfold zeB
    rw[zaA]
    simp only[hasK]
    cases mhas keqS s.2.1 x<;>rfl
theorem xbI{B:Int}(hB:B≤1099511627776){s:PS}(h:PInv B s)(n x:L8):zfV zaB n x s.1 s.2.1 s.2.2.1 s.2.2.2.1 s.2.2.2.2=some (yfP 1 n x s):=by
 unfold zfV zoZ zaR
 rw[zaA,ysM,zaA,zaA]
 unfold ydM yfP
 cases h1:!nmB n || !nmB x with
 |true=>rfl
 |false=>
  simp only[cond_false]
  cases hg:mget keqS s.2.1 n with
  |none=>rfl
  |some g=>
   have hm:=kS.get_some hg
   have hl:RiL g.1.2.1:=(h.gl n g hm 1 (by decide)).1
   have hn:g.1.2.1.length≤64:=h.lst_len hm (i:=1) (by decide)
   have hv:=(h.gn n g hm).2
   simp only
   cases h2:hasK 1 s x with
   |false=>rfl
   |true=>
    simp only[Bool.not_true,cond_false]
    unfold zoQ zpF
    simp only[bne_self_eq_false,cond_false,lst]
    rw[show zaV zaB g.1.2.1 x=_ from ybF x hl (by omega),zaA,zaA]
    simp only
    cases h3:g.1.2.1.contains x with
    |true=>rfl
    |false=>
     have hx:x∉g.1.2.1:=fun hx=>by rw[List.contains_iff_mem.2 hx]at h3;cases h3
     simp only[cond_false]
     obtain⟨r,hr,hr2⟩:=xaI h x n
     rw[hr,zaA]
     cases r with
     |true=>rw[if_pos ⟨rfl,hr2.1 rfl⟩];rfl
     |false=>
      rw[if_neg fun hh=>by have:=hr2.2 hh.2;cases this]
      simp only[cond_false,zaA]
      unfold zpG
      rw[show zeC zaB g.1.2.1 x=_ from yoW x hl (by omega),zaA,zaA]
      simp only
      rw[show w64 (g.2+1)=g.2+1 from ztN (by omega) (by omega)]
      rfl
theorem yvF{B:Int}(hB:B≤1099511627776){s:PS}(h:PInv B s)(n x:L8):zfB zaB n x s.1 s.2.1 s.2.2.1 s.2.2.2.1 s.2.2.2.2=some (zxL 1 n x s):=by
 unfold zfB zmD zaR
 rw[zaA,ysM,zaA,zaA]
 unfold ydM zxL
 cases h1:!nmB n || !nmB x with
 |true=>rfl
 |false=>
  simp only[cond_false]
  cases hg:mget keqS s.2.1 n with
  |none=>rfl
  |some g=>
   have hm:=kS.get_some hg
   have hl:RiL g.1.2.1:=(h.gl n g hm 1 (by decide)).1
   have hn:g.1.2.1.length≤64:=h.lst_len hm (i:=1) (by decide)
   have hv:=(h.gn n g hm).2
   simp only
   cases h2:hasK 1 s x with
   |false=>rfl
   |true=>
    simp only[Bool.not_true,cond_false]
    unfold zmI
    simp only[bne_self_eq_false,cond_false,lst]
    rw[show zaV zaB g.1.2.1 x=_ from ybF x hl (by omega),zaA]
    cases h3:g.1.2.1.contains x with
    |false=>rfl
    |true=>
     simp only[Bool.not_true,cond_false,zaA]
     unfold zmP
     rw[show zaW zaB g.1.2.1 x=_ from zyW _ x (by omega),zaA,zaA]
     simp only
     rw[show w64 (g.2+1)=g.2+1 from ztN (by omega) (by omega)]
     rfl
theorem ysN(n x:L8)(s:PS):zdF zaB n x s.1 s.2.1 s.2.2.1 s.2.2.2.1 s.2.2.2.2=some (ydM 2 n x s):=by
 unfold zdF znQ ydM
 rw[zvY,zaA]
 cases nmB n with
 |false=>rfl
 |true=>
  rw[Bool.not_true,cond_false,zvY,zaA]
  cases nmB x with
  |false=>rfl
  |true=>
   simp only[Bool.not_true,cond_false,zaA,Bool.or_false]
   rw[zeI,zjV]
   cases mget keqS s.2.1 n with
   |none=>rfl
   |some g=>
    simp only[Option.isSome_some,Bool.not_true,cond_false]
    unfold zeJ
    rw[zaA]
    simp only[hasK]
    cases mhas keqS s.2.2.1 x<;>rfl
theorem xcC{B:Int}(hB:B≤1099511627776){s:PS}(h:PInv B s)(n x:L8):zfM zaB n x s.1 s.2.1 s.2.2.1 s.2.2.2.1 s.2.2.2.2=some (yfP 2 n x s):=by
 unfold zfM zmU zaR
 rw[zaA,ysN,zaA,zaA]
 unfold ydM yfP
 cases h1:!nmB n || !nmB x with
 |true=>rfl
 |false=>
  simp only[cond_false]
  cases hg:mget keqS s.2.1 n with
  |none=>rfl
  |some g=>
   have hm:=kS.get_some hg
   have hl:RiL g.1.2.2:=(h.gl n g hm 2 (by decide)).1
   have hn:g.1.2.2.length≤64:=h.lst_len hm (i:=2) (by decide)
   have hv:=(h.gn n g hm).2
   simp only
   cases h2:hasK 2 s x with
   |false=>rfl
   |true=>
    simp only[Bool.not_true,cond_false]
    unfold znF zmZ
    simp only[bne_self_eq_false,cond_false,lst]
    rw[show zaV zaB g.1.2.2 x=_ from ybF x hl (by omega),zaA,zaA]
    simp only
    cases h3:g.1.2.2.contains x with
    |true=>rfl
    |false=>
     have hx:x∉g.1.2.2:=fun hx=>by rw[List.contains_iff_mem.2 hx]at h3;cases h3
     simp only[cond_false]
     rw[if_neg fun hh=>absurd hh.1 (by decide),zaA]
     simp only
     unfold zmW
     rw[show zeC zaB g.1.2.2 x=_ from yoW x hl (by omega),zaA,zaA]
     simp only
     rw[show w64 (g.2+1)=g.2+1 from ztN (by omega) (by omega)]
     rfl
theorem yzN{B:Int}(hB:B≤1099511627776){s:PS}(h:PInv B s)(n x:L8):zeX zaB n x s.1 s.2.1 s.2.2.1 s.2.2.2.1 s.2.2.2.2=some (zxL 2 n x s):=by
 unfold zeX zlI zaR
 rw[zaA,ysN,zaA,zaA]
 unfold ydM zxL
 cases h1:!nmB n || !nmB x with
 |true=>rfl
 |false=>
  simp only[cond_false]
  cases hg:mget keqS s.2.1 n with
  |none=>rfl
  |some g=>
   have hm:=kS.get_some hg
   have hl:RiL g.1.2.2:=(h.gl n g hm 2 (by decide)).1
   have hn:g.1.2.2.length≤64:=h.lst_len hm (i:=2) (by decide)
   have hv:=(h.gn n g hm).2
   simp only
   cases h2:hasK 2 s x with
   |false=>rfl
   |true=>
    simp only[Bool.not_true,cond_false]
    unfold zlL
    simp only[bne_self_eq_false,cond_false,lst]
    rw[show zaV zaB g.1.2.2 x=_ from ybF x hl (by omega),zaA]
    cases h3:g.1.2.2.contains x with
    |false=>rfl
    |true=>
     simp only[Bool.not_true,cond_false,zaA]
     unfold zmO
     rw[show zaW zaB g.1.2.2 x=_ from zyW _ x (by omega),zaA,zaA]
     simp only
     rw[show w64 (g.2+1)=g.2+1 from ztN (by omega) (by omega)]
     rfl
theorem putR_ok{r:Ro}(hr:r.2.length≤1048576)(s:PS):zcJ zaB r s.1 s.2.1 s.2.2.1 s.2.2.2.1 s.2.2.2.2=some (yyM r s):=by
 unfold zcJ zkP yyM
 rw[role_ok hr,zaA]
 cases ylL r with
 |false=>rfl
 |true=>
  simp only[Bool.not_true,cond_false]
  cases mhas keqS s.2.2.1 r.1 with
  |true=>
   simp only[Bool.not_true,cond_false,zaA,Bool.false_and]
   rw[yoD hr,zaA]
  |false=>
   simp only[Bool.not_false,cond_true,Bool.true_and]
   by_cases h:32≤s.2.2.1.length
   ·rw[zoE (show(s.2.2.1.length:Int)≥32 by omega),decide_eq_true h];rfl
   ·rw[zrW (show ¬(s.2.2.1.length:Int)≥32 by omega),decide_eq_false h,zaA]
    simp only[cond_false]
    rw[yoD hr,zaA]
theorem putC_ok{c:Cl}(h0:c.2.1.length≤1048576)(h1:c.2.2.1.length≤1048576)(h2:c.2.2.2.1.length≤1048576)(s:PS):zdA zaB c s.1 s.2.1 s.2.2.1 s.2.2.2.1 s.2.2.2.2=some (yvS c s):=by
 unfold zdA zjA yvS
 rw[cli_ok h0 h1 h2,zaA]
 cases cliB c with
 |false=>rfl
 |true=>
  simp only[Bool.not_true,cond_false]
  cases mhas keqS s.2.2.2.1 c.1 with
  |true=>
   simp only[Bool.not_true,cond_false,zaA,Bool.false_and]
   rw[ypE h1 h2,zaA]
  |false=>
   simp only[Bool.not_false,cond_true,Bool.true_and]
   by_cases h:32≤s.2.2.2.1.length
   ·rw[zoE (show(s.2.2.2.1.length:Int)≥32 by omega),decide_eq_true h];rfl
   ·rw[zrW (show ¬(s.2.2.2.1.length:Int)≥32 by omega),decide_eq_false h,zaA]
    simp only[cond_false]
    rw[ypE h1 h2,zaA]
theorem yqW{p:L8}(hp:prB p=true)(s:PS):zbM zaB p s.1 s.2.1 s.2.2.1 s.2.2.2.1 s.2.2.2.2=some (thB s p,s):=by
 obtain⟨c,l,rfl,hc,_⟩:=yoC hp
 unfold zbM
 rw[show idx (c::58::l) (0:Int)=some c from rfl,zaA]
 have e2:subL (c::58::l) (2:Int)=some l:=by
  unfold subL
  rw[decide_eq_true (show(0:Int)≤2 by decide),decide_eq_true (show(2:Int)≤((c::58::l).length:Int) by simp only[List.length_cons];omega)]
  rfl
 rcases hc with rfl|rfl
 ·rw[show(((117:UInt8).toNat:Int)==((99:UInt8).toNat:Int))=false from rfl,cond_false,e2,zaA];rfl
 ·rw[show(((99:UInt8).toNat:Int)==((99:UInt8).toNat:Int))=true from rfl,cond_true,e2,zaA];rfl
def xbX(a b:L8)(s:PS):Int:=bif !prB a || !prB b then 120 else bif !thB s a || !thB s b then 122 else 0
theorem ywH(a b:L8)(s:PS):zdW zaB a b s.1 s.2.1 s.2.2.1 s.2.2.2.1 s.2.2.2.2=some (xbX a b s,s):=by
 unfold zdW zpI xbX
 rw[xcA,zaA]
 cases ha:prB a with
 |false=>rfl
 |true=>
  rw[Bool.not_true,cond_false,xcA,zaA]
  cases hb:prB b with
  |false=>rfl
  |true=>
   simp only[Bool.not_true,cond_false,zaA,Bool.or_false]
   rw[yqW ha,zaA]
   cases thB s a with
   |false=>rfl
   |true=>
    simp only[Bool.not_true,cond_false]
    rw[yqW hb,zaA]
    cases thB s b<;>rfl
theorem xbK(a b:L8)(s:PS):zfL zaB a b s.1 s.2.1 s.2.2.1 s.2.2.2.1 s.2.2.2.2=some (ylO a b s):=by
 unfold zfL ylO
 rw[ywH,zaA]
 unfold xbX
 cases !prB a || !prB b with
 |true=>rfl
 |false=>
  cases !thB s a || !thB s b with
  |true=>rfl
  |false=>
   simp only[cond_false,bne_self_eq_false]
   unfold zeT
   simp only
   rw[zaA]
   simp only
   cases h:mhas keqM s.2.2.2.2 (a,b) with
   |true=>rw[show mhas (keq (.pr .s .s)) s.2.2.2.2 (a,b)=true from h];rfl
   |false=>
    rw[show mhas (keq (.pr .s .s)) s.2.2.2.2 (a,b)=false from h,cond_false,cond_false]
    by_cases h:64≤s.2.2.2.2.length
    ·rw[zoE (show(s.2.2.2.2.length:Int)≥64 by omega),decide_eq_true h];rfl
    ·rw[zrW (show ¬(s.2.2.2.2.length:Int)≥64 by omega),decide_eq_false h];rfl
theorem deny_ok(a b:L8)(s:PS):zfU zaB a b s.1 s.2.1 s.2.2.1 s.2.2.2.1 s.2.2.2.2=some (yzB a b s):=by
 unfold zfU yzB
 rw[ywH,zaA]
 unfold xbX
 cases !prB a || !prB b with
 |true=>rfl
 |false=>
  cases !thB s a || !thB s b with
  |true=>rfl
  |false=>
   simp only[cond_false,bne_self_eq_false]
   unfold zeT
   simp only
   rw[zaA]
   simp only
   cases h:mhas keqM s.2.2.2.2 (a,b) with
   |true=>rw[show mhas (keq (.pr .s .s)) s.2.2.2.2 (a,b)=true from h];rfl
   |false=>rw[show mhas (keq (.pr .s .s)) s.2.2.2.2 (a,b)=false from h];rfl
abbrev Opr:Type:=Int×Int×L8×L8×Bool×Ro×Cl
noncomputable def ytL(o:Opr)(s:PS):Int×PS:=
 bif o.2.1==0 then xaX o.2.2.1 o.2.2.2.1 s else bif o.2.1==1 then yxW o.2.2.1 o.2.2.2.1 s else bif o.2.1==2 then ytV o.2.2.1 o.2.2.2.2.1 s else bif o.2.1==3 then zgI o.2.2.1 s else bif o.2.1==4 then xaJ o.2.2.1 s else bif o.2.1==5 then zjO o.2.2.1 s else
 bif o.2.1==6 then yfP 0 o.2.2.1 o.2.2.2.1 s else bif o.2.1==7 then zxL 0 o.2.2.1 o.2.2.2.1 s else bif o.2.1==8 then yfP 1 o.2.2.1 o.2.2.2.1 s else bif o.2.1==9 then zxL 1 o.2.2.1 o.2.2.2.1 s else bif o.2.1==10 then yfP 2 o.2.2.1 o.2.2.2.1 s else bif o.2.1==11 then zxL 2 o.2.2.1 o.2.2.2.1 s else
 bif o.2.1==12 then yyM o.2.2.2.2.2.1 s else bif o.2.1==13 then zqF o.2.2.1 s else bif o.2.1==14 then yvS o.2.2.2.2.2.2 s else bif o.2.1==15 then ztY o.2.2.1 s else bif o.2.1==16 then ylO o.2.2.1 o.2.2.2.1 s else bif o.2.1==17 then yzB o.2.2.1 o.2.2.2.1 s else(0,s)
def Opok(o:Opr):Prop:=o.2.2.2.2.2.1.2.length≤1048576∧o.2.2.2.2.2.2.2.1.length≤1048576∧o.2.2.2.2.2.2.2.2.1.length≤1048576∧o.2.2.2.2.2.2.2.2.2.1.length≤1048576
theorem znT{α:Type}{c:Bool}{a b:Option α}{x y:α}(h:a=some x)(k:b=some y):(bif c then a else b)=some (bif c then x else y):=by cases c<;>assumption
theorem does_ok{B:Int}(hB:B≤1099511627776){s:PS}(h:PInv B s){o:Opr}(ho:Opok o):zdK zaB o s.1 s.2.1 s.2.2.1 s.2.2.2.1 s.2.2.2.2=some (ytL o s):=by
 obtain⟨h1,h2,h3,h4⟩:=ho
 unfold zdK ytL
 refine znT (by rw[addU_ok];rfl) (znT (by rw[setM_ok hB h];rfl) (znT (by rw[setA_ok hB h];rfl) (znT (by rw[ysS hB h];rfl) (znT (by rw[addG_ok];rfl) (znT (by rw[yqT hB h];rfl) ?_)))))
 unfold zgA ziL zdS zhQ zfY zjG
 refine znT (by rw[xcN hB h];rfl) (znT (by rw[yxN hB h];rfl) (znT (by rw[xbI hB h];rfl) (znT (by rw[yvF hB h];rfl) (znT (by rw[xcC hB h];rfl) (znT (by rw[yzN hB h];rfl) ?_)))))
 exact znT (by rw[putR_ok h1];rfl) (znT (by rw[yqM hB h];rfl) (znT (by rw[putC_ok h2 h3 h4];rfl) (znT (by rw[ysR h];rfl) (znT (by rw[xbK];rfl) (znT (by rw[deny_ok];rfl) rfl)))))
theorem zwN{α:Type}{P:α→Prop}{c:Bool}{x y:α}(h:P x)(k:P y):P (bif c then x else y):=by cases c<;>assumption
theorem yrJ{B:Int}(hB:1≤B){s:PS}(h:PInv B s)(o:Opr):PInv (B+1) (ytL o s).2:=by
 have m:∀{t:PS},PInv B t→PInv (B+1) t:=fun h=>h.mono (by omega)
 unfold ytL
 let P:Int×PS→Prop:=fun r=>PInv (B+1) r.2
 refine zwN (P:=P) (m (xeC h hB)) (zwN (P:=P) (xbN h) (zwN (P:=P) (xeS h) (zwN (P:=P) (ygF h) (zwN (P:=P) (xeI h hB) (zwN (P:=P) (yfK h) ?_)))))
 refine zwN (P:=P) (ykC (by decide) h hB) (zwN (P:=P) (yfA (by decide) h hB) (zwN (P:=P) (ykC (by decide) h hB) (zwN (P:=P) (yfA (by decide) h hB) (zwN (P:=P) (ykC (by decide) h hB) (zwN (P:=P) (yfA (by decide) h hB) ?_)))))
 exact zwN (P:=P) (m (xcJ h)) (zwN (P:=P) (yeV h) (zwN (P:=P) (m (xeU h)) (zwN (P:=P) (m (ymQ h)) (zwN (P:=P) (m (ywL h)) (zwN (P:=P) (m (xcI h)) (m h))))))
theorem xbT{γ:Type}{es:List (L8×γ)}(hR:Ri kltS es):zrM (es.map (·.1))=true:=yiB.2 (List.pairwise_map.2 hR)
theorem ztD{γ:Type}{es:List (L8×γ)}(hR:Ri kltS es)(hl:es.length≤1048576)(hk:∀p∈es,p.1.length≤68719476736):zoD es=some (es.map (·.1),es):=by
 unfold zoD ygP
 rw[decide_eq_true hl,xbT hR,List.all_eq_true.2 fun p hp=>decide_eq_true (hk p hp)]
 rfl
theorem yaM{γ δ:Type}{es:List (L8×γ)}{body:Int×List (L8×γ)×List δ→Option ((Int×List (L8×γ)×List δ)⊕(List (L8×γ)×List δ))}{tell:L8×γ→δ}(hl:es.length≤1048576)
  (hb:∀(i:Nat) (hi:i<es.length) (acc:List δ),acc.length≤1048576→body ((i:Int),es,acc)=some (.inl (((i+1:Nat):Int),es,acc++[tell es[i]])))
  (he:∀acc,body ((es.length:Int),es,acc)=some (.inr (es,acc))):iter body ((0:Int),es,([]:List δ))=some (es,es.map tell):=by
 have key:∀(f i:Nat) (acc:List δ),f+i=es.length→acc.length+f≤1048576→∀g,f<g→ztZ body g ((i:Int),es,acc)=some (es,acc++(es.drop i).map tell):=by
  intro f
  induction f with
  |zero=>
   intro i acc hi _ g hg
   obtain⟨g,rfl⟩:∃m,g=m+1:=⟨g-1,by omega⟩
   have hi:i=es.length:=by omega
   subst hi
   rw[zgH (he acc),List.drop_length,List.map_nil,List.append_nil]
  |succ f ih=>
   intro i acc hi ha g hg
   obtain⟨g,rfl⟩:∃m,g=m+1:=⟨g-1,by omega⟩
   have hlt:i<es.length:=by omega
   rw[zhE (hb i hlt acc (by omega)),ih (i+1) _ (by omega) (by simp;omega) g (by omega),List.drop_eq_getElem_cons hlt,List.map_cons,List.append_assoc]
   rfl
 have:=key es.length 0 [] (by omega) (by simp;omega) FU (by unfold FU;omega)
 rw[List.drop_zero,List.nil_append]at this
 exact this
def usE(s:PS):List Us:=s.1.map (·.2)
def grE(s:PS):List (L8×List L8×List L8×List L8×Int):=s.2.1.map fun p=>(p.1,p.2.1.1,p.2.1.2.1,p.2.1.2.2,p.2.2)
def roE(s:PS):List Ro:=s.2.2.1.map (·.2)
def clE(s:PS):List Cl:=s.2.2.2.1.map (·.2)
def maE(s:PS):List (L8×L8):=s.2.2.2.2.map (·.1)
theorem yqN{n:Nat}(h:n≤1048576):chk (decide ((0:Int)≤(n:Int))&&decide ((n:Int)≤(LIM:Int)))=some ():=by
 rw[decide_eq_true (show(0:Int)≤(n:Int) by omega),decide_eq_true (show(n:Int)≤(LIM:Int) by unfold LIM;omega)];rfl
theorem mk0{α:Type}(z:α):Go.Proofs.YtopanhneegpgcaaGreatDoor.mkL (0:Int) z=some []:=rfl
theorem get_at{γ:Type}{es:List (L8×γ)}(hR:Ri kltS es){i:Nat}(hi:i<es.length)(z:γ):zdY keqS es es[i].1 z=es[i].2:=by
 rw[zjV,kS.get_mem hR (k:=es[i].1) (v:=es[i].2) (List.getElem_mem hi)];rfl
theorem yrE{γ:Type}{es:List (L8×γ)}{i:Nat}(hi:i<es.length):idx (es.map (·.1)) (i:Int)=some es[i].1:=by
 rw[zrA rfl (by rw[List.length_map];exact hi),List.getElem_map]
theorem yrY{B:Int}{s:PS}(h:PInv B s):zcG zaB s.1 s.2.1 s.2.2.1 s.2.2.2.1 s.2.2.2.2=some (s.1,s.2.1,s.2.2.1,s.2.2.2.1,s.2.2.2.2,usE s):=by
 have hl:=h.uL
 unfold zcG zpY zxW
 rw[yqN (by omega),zaA,mk0,zaA,zaA,ztD h.uR (by omega) fun p hp=>Nat.le_trans (zzS (h.us p.1 p.2 hp).2.1) (by decide),zaA]
 rw[yaM (es:=s.1) (tell:=fun p:L8×Us=>p.2) (by omega) (fun i hi acc ha=>?_) fun acc=>?_,zaA,zaA]
 ·rfl
 ·unfold zoJ zgV
  simp only
  rw[zoE (by rw[List.length_map];omega),yrE hi,zaA,get_at h.uR hi,zaA,yaW (by simp;omega),zaA,zzE (by omega)]
 ·unfold zoJ
  simp only
  rw[zrW (by rw[List.length_map];omega)]
theorem yzK{B:Int}{s:PS}(h:PInv B s):zcS zaB s.1 s.2.1 s.2.2.1 s.2.2.2.1 s.2.2.2.2=some (s.1,s.2.1,s.2.2.1,s.2.2.2.1,s.2.2.2.2,grE s):=by
 have hl:=h.gL
 unfold zcS zpV zyN
 rw[yqN (by omega),zaA,mk0,zaA,zaA,ztD h.gR (by omega) fun p hp=>Nat.le_trans (zzS (h.gn p.1 p.2 hp).1) (by decide),zaA]
 rw[yaM (es:=s.2.1) (tell:=fun p:L8×Gr=>(p.1,p.2.1.1,p.2.1.2.1,p.2.1.2.2,p.2.2)) (by omega) (fun i hi acc ha=>?_) fun acc=>?_,zaA,zaA]
 ·rfl
 ·have hm:(s.2.1[i].1,s.2.1[i].2)∈s.2.1:=List.getElem_mem hi
  have e:∀l:List L8,l.length≤64→zgE zaB l=some l:=fun l hl=>by
   unfold zgE
   rw[zyV _ (by omega),zaA]
  unfold zoB
  simp only
  rw[zoE (by rw[List.length_map];omega),yrE hi,zaA,get_at h.gR hi]
  unfold zuW
  rw[e s.2.1[i].2.1.1 (h.lst_len hm (i:=0) (by decide)),zaA,e s.2.1[i].2.1.2.1 (h.lst_len hm (i:=1) (by decide)),zaA,e s.2.1[i].2.1.2.2 (h.lst_len hm (i:=2) (by decide)),zaA,zaA,yaW (by simp;omega),zaA,zzE (by omega)]
 ·unfold zoB
  simp only
  rw[zrW (by rw[List.length_map];omega)]
theorem yuW{r:Ro}(h:ylL r=true):r.2.length≤16:=by
 unfold ylL yhD at h
 simp only[Bool.and_eq_true,decide_eq_true_eq]at h
 exact h.2.2
theorem xbM{c:Cl}(h:cliB c=true):c.2.2.1.length≤16∧c.2.2.2.1.length≤16:=by
 unfold cliB yhD at h
 simp only[Bool.and_eq_true,decide_eq_true_eq]at h
 exact⟨h.1.2.2,h.2.2⟩
theorem ysI{B:Int}{s:PS}(h:PInv B s):zcD zaB s.1 s.2.1 s.2.2.1 s.2.2.2.1 s.2.2.2.2=some (s.1,s.2.1,s.2.2.1,s.2.2.2.1,s.2.2.2.2,roE s):=by
 have hl:=h.rL
 unfold zcD zpT zxY
 rw[yqN (by omega),zaA,mk0,zaA,zaA,ztD h.rR (by omega) fun p hp=>by
  have h1:=h.ro p.1 p.2 hp
  have h2:=zaT h1.2
  rw[h1.1]at h2
  exact Nat.le_trans (zzS h2) (by decide),zaA]
 rw[yaM (es:=s.2.2.1) (tell:=fun p:L8×Ro=>p.2) (by omega) (fun i hi acc ha=>?_) fun acc=>?_,zaA,zaA]
 ·rfl
 ·have hm:(s.2.2.1[i].1,s.2.2.1[i].2)∈s.2.2.1:=List.getElem_mem hi
  have h1:=yuW (h.ro _ _ hm).2
  unfold zoH zgT
  simp only
  rw[zoE (by rw[List.length_map];omega),yrE hi,zaA,get_at h.rR hi,yoD (by omega),zaA,zaA,yaW (by simp;omega),zaA,zzE (by omega)]
 ·unfold zoH
  simp only
  rw[zrW (by rw[List.length_map];omega)]
theorem xfK{c:Cl}(h:cliB c=true):nmB c.1=true:=by
 unfold cliB at h
 simp only[Bool.and_eq_true]at h
 exact h.1.1.1
theorem yiC{B:Int}{s:PS}(h:PInv B s):zbW zaB s.1 s.2.1 s.2.2.1 s.2.2.2.1 s.2.2.2.2=some (s.1,s.2.1,s.2.2.1,s.2.2.2.1,s.2.2.2.2,clE s):=by
 have hl:=h.cL
 unfold zbW zrQ zwV
 rw[yqN (by omega),zaA,mk0,zaA,zaA,ztD h.cR (by omega) fun p hp=>by
  have h1:=h.cl p.1 p.2 hp
  have h2:=xfK h1.2
  rw[h1.1]at h2
  exact Nat.le_trans (zzS h2) (by decide),zaA]
 rw[yaM (es:=s.2.2.2.1) (tell:=fun p:L8×Cl=>p.2) (by omega) (fun i hi acc ha=>?_) fun acc=>?_,zaA,zaA]
 ·rfl
 ·have hm:(s.2.2.2.1[i].1,s.2.2.2.1[i].2)∈s.2.2.2.1:=List.getElem_mem hi
  have h1:=xbM (h.cl _ _ hm).2
  unfold zpR zfT
  simp only
  rw[zoE (by rw[List.length_map];omega),yrE hi,zaA,get_at h.cR hi,ypE (by omega) (by omega),zaA,zaA,yaW (by simp;omega),zaA,zzE (by omega)]
 ·unfold zpR
  simp only
  rw[zrW (by rw[List.length_map];omega)]
theorem ymY:∀{l:List (L8×L8)},(l.Pairwise fun x y=>kltM x y=true)→ycT l=true
 |[],_=>rfl
 |[_],_=>rfl
 |x::y::l,h=>by
  have hc:=List.pairwise_cons.1 h
  unfold ycT
  rw[Bool.and_eq_true]
  exact⟨hc.1 y List.mem_cons_self,ymY hc.2⟩
theorem mays_ok{B:Int}{s:PS}(h:PInv B s):zdT zaB s.1 s.2.1 s.2.2.1 s.2.2.2.1 s.2.2.2.2=some (maE s,s):=by
 have hl:=h.mL
 unfold zdT zxU
 rw[zaA]
 have e:yaU s.2.2.2.2=some (s.2.2.2.2.map (·.1),s.2.2.2.2):=by
  unfold yaU
  rw[decide_eq_true (by omega),ymY (List.pairwise_map.2 h.mR)];rfl
 rw[e,zaA]
 rfl
inductive InG (G:GM) (u:L8):L8→Prop
 |dir {n:L8} {g:Gr}:(n,g)∈G→u∈lst 0 g→InG G u n
 |sub {n x:L8} {g:Gr}:(n,g)∈G→x∈lst 1 g→InG G u x→InG G u n
theorem InG.key{G:GM}{u n:L8}(h:InG G u n):mhas keqS G n=true:=by
 cases h with
 |dir h _=>exact kS.has_iff.2 ⟨_,h⟩
 |sub h _ _=>exact kS.has_iff.2 ⟨_,h⟩
open Classical in
noncomputable def inE(G:GM)(u:L8):List L8:=(G.map (·.1)).filter fun n=>decide (InG G u n)
open Classical in
theorem yoA{G:GM}{u n:L8}:n∈inE G u↔InG G u n:=by
 unfold inE
 rw[List.mem_filter,decide_eq_true_eq]
 refine⟨fun h=>h.2,fun h=>⟨?_,h⟩⟩
 obtain⟨g,hg⟩:=kS.has_iff.1 h.key
 exact List.mem_map.2 ⟨_,hg,rfl⟩
theorem xfI{G:GM}(hR:Ri kltS G)(u:L8):RiL (inE G u):=(show RiL (G.map (·.1))from List.pairwise_map.2 hR).sublist List.filter_sublist
theorem cont_ok(l:List L8)(z:SM)(hl:l.length≤1048576):zdE zaB l z=some (l.any (fun x=>mhas keqS z x),z):=by
 have key:∀(f i:Nat),f+i=l.length→∀g,f<g→ztZ (fun x:Int×SM=>zcX zaB l x.1 x.2) g ((i:Int),z)=some (match (l.drop i).findIdx? (fun x=>mhas keqS z x) with
   |some k=>.inl (((i+k:Nat):Int),z)
   |none=>.inr z):=by
  intro f
  induction f with
  |zero=>
   intro i hi g hg
   obtain⟨g,rfl⟩:∃m,g=m+1:=⟨g-1,by omega⟩
   have hi:i=l.length:=by omega
   subst hi
   rw[List.drop_length]
   refine zgH ?_
   unfold zcX
   simp only
   rw[zrW (by omega)]
   rfl
  |succ f ih=>
   intro i hi g hg
   obtain⟨g,rfl⟩:∃m,g=m+1:=⟨g-1,by omega⟩
   have hlt:i<l.length:=by omega
   rw[List.drop_eq_getElem_cons hlt,List.findIdx?_cons]
   have hb:zcX zaB l (i:Int) z=bif mhas keqS z l[i]then some (.inr (.inl ((i:Int),z)))else some (.inl (((i+1:Nat):Int),z)):=by
    unfold zcX zjI
    rw[zoE (by omega),zrA rfl hlt,zaA,zaA,zzE (by omega)]
   cases hm:mhas keqS z l[i] with
   |true=>
    rw[hm]at hb
    rw[zgH (b:=.inl ((i:Int),z)) hb];rfl
   |false=>
    rw[hm]at hb
    rw[zhE (s':=(((i+1:Nat):Int),z)) hb,ih (i+1) (by omega) g (by omega)]
    simp only[if_false,Bool.false_eq_true]
    cases (l.drop (i+1)).findIdx? (fun x=>mhas keqS z x) with
    |none=>rfl
    |some k=>simp only[Option.map_some];congr 4;omega
 have h0:=key l.length 0 (by omega) FU (by unfold FU;omega)
 unfold zdE zmF
 rw[show iter (fun x:Int×SM=>zcX zaB l x.1 x.2) ((0:Int),z)=_ from h0,zaA,List.drop_zero]
 cases hf:l.findIdx? (fun x=>mhas keqS z x) with
 |none=>
  simp only[zaA]
  rw[show l.any (fun x=>mhas keqS z x)=false from List.any_eq_false.2 fun x hx=>by rw[List.findIdx?_eq_none_iff.1 hf x hx];simp]
  rfl
 |some k=>
  simp only[zaA]
  rw[show l.any (fun x=>mhas keqS z x)=true from List.any_eq_true.2 (by
   obtain⟨hk,h1,_⟩:=List.findIdx?_eq_some_iff_getElem.1 hf
   exact⟨l[k],List.getElem_mem hk,h1⟩)]
  rw[decide_eq_true (show(((0+k:Nat)):Int)≥0 by omega)]
abbrev T7:Type:=Bool×UM×GM×RM×CM×MM×SM
abbrev T8:Type:=Bool×UM×GM×RM×CM×MM×List L8×SM
theorem in_rng{B:Int}{s:PS}(h:PInv B s)(u:L8):∃z:SM,Ri kltS z∧(∀n,mhas keqS z n=true↔InG s.2.1 u n)∧rngA (zqW zaB u) (Sum.inl (true,s.1,s.2.1,s.2.2.1,s.2.2.2.1,s.2.2.2.2,([]:SM)))=some (s.1,s.2.1,s.2.2.1,s.2.2.2.1,s.2.2.2.2,z):=by
 obtain⟨z,hz,hzm⟩:∃z:SM,Ri kltS z∧∀n,mhas keqS z n=true↔InG s.2.1 u n:=by
  refine⟨(inE s.2.1 u).map fun n=>(n,()),List.pairwise_map.2 (xfI h.gR u),fun n=>?_⟩
  rw[kS.has_iff,←yoA]
  constructor
  ·rintro⟨v,hv⟩
   obtain⟨m,hm,e⟩:=List.mem_map.1 hv
   cases e;exact hm
  ·exact fun hn=>⟨(),List.mem_map.2 ⟨n,hn,rfl⟩⟩
 refine⟨z,hz,hzm,?_⟩
 -- a set that is no more than what it shall be
 let ok:SM→Prop:=fun t=>Ri kltS t∧∀n,mhas keqS t n=true→InG s.2.1 u n
 have okl:∀t,ok t→t.length≤s.2.1.length:=fun t ht=>by
  have hn:(t.map (·.1)).Nodup:=(List.pairwise_map.2 (ht.1.imp fun {p q} hpq=>kS.lt_ne hpq):(t.map (·.1)).Pairwise (· ≠ ·))
  have:=ziU hn (m:=s.2.1.map (·.1)) fun x hx=>by
   obtain⟨p,hp,rfl⟩:=List.mem_map.1 hx
   obtain⟨g,hg⟩:=kS.has_iff.1 (ht.2 p.1 (kS.has_iff.2 ⟨p.2,hp⟩)).key
   exact List.mem_map.2 ⟨_,hg,rfl⟩
  simpa using this
 -- nothing is to come of a group
 let done:SM→L8→Gr→Prop:=fun t n g=>mhas keqS t n=true∨(u∉lst 0 g∧∀x∈lst 1 g,mhas keqS t x=false)
 have fin:∀t,ok t→(∀n g,(n,g)∈s.2.1→done t n g)→t=z:=fun t ht hd=>by
  refine kS.ext_get ht.1 hz fun n=>?_
  have:mhas keqS t n=mhas keqS z n:=by
   rw[Bool.eq_iff_iff,hzm]
   refine⟨ht.2 n,fun hn=>?_⟩
   induction hn with
   |dir hg hu=>
    rcases hd _ _ hg with h1|⟨h1,_⟩
    ·exact h1
    ·exact absurd hu h1
   |sub hg hx _ ih=>
    rcases hd _ _ hg with h1|⟨_,h1⟩
    ·exact h1
    ·rw[h1 _ hx]at ih;cases ih
  rw[zeI,zeI]at this
  cases h1:mget keqS t n with
  |none=>cases h2:mget keqS z n with
   |none=>rfl
   |some v=>rw[h1,h2]at this;cases this
  |some v=>cases h2:mget keqS z n with
   |none=>rw[h1,h2]at this;cases this
   |some w=>rfl
 refine xfF (S:=T7⊕T8) (fun x=>by
  cases x with
  |inl x=>exact List.cons_ne_nil _ _
  |inr x=>exact yaC _ _ _) (fun x=>match x with
   |.inl y=>∃t,y=(y.1,s.1,s.2.1,s.2.2.1,s.2.2.2.1,s.2.2.2.2,t)∧ok t∧(y.1=false→∀n g,(n,g)∈s.2.1→done t n g)
   |.inr y=>∃left t,y=(y.1,s.1,s.2.1,s.2.2.1,s.2.2.2.1,s.2.2.2.2,left,t)∧ok t∧left.length≤s.2.1.length∧(y.1=false→∀n g,(n,g)∈s.2.1→n∉left→done t n g))
  (fun x=>match x with
   |.inl y=>(s.2.1.length-y.2.2.2.2.2.2.length)*(s.2.1.length+3)+bif y.1 then s.2.1.length+2 else 0
   |.inr y=>(s.2.1.length-y.2.2.2.2.2.2.2.length)*(s.2.1.length+3)+y.2.2.2.2.2.2.1.length+1+bif y.1 then s.2.1.length+3 else 0) (fun x hx o ho=>?_) ⟨[],rfl,⟨.nil,fun n h=>by cases h⟩,fun h=>by cases h⟩
 cases x with
 |inl y=>
  obtain⟨t,hy,ht,hd⟩:=hx
  obtain⟨more,y2⟩:=y
  have hy2:y2=(s.1,s.2.1,s.2.2.1,s.2.2.2.1,s.2.2.2.2,t):=congrArg Prod.snd hy
  subst hy2
  have ho:o=zkF zaB more s.1 s.2.1 s.2.2.1 s.2.2.2.1 s.2.2.2.2 t:=List.mem_singleton.1 ho
  unfold zkF at ho
  cases more with
  |true=>
   refine .inl ⟨_,ho,⟨List.map Prod.fst s.2.1,t,rfl,ht,by rw[List.length_map];exact Nat.le_refl _,fun _ n g hg hn=>absurd (List.mem_map.2 ⟨_,hg,rfl⟩) hn⟩,?_⟩
   show(s.2.1.length-t.length)*(s.2.1.length+3)+(List.map Prod.fst s.2.1).length+1+0<(s.2.1.length-t.length)*(s.2.1.length+3)+(s.2.1.length+2)
   rw[List.length_map];omega
  |false=>
   right
   rw[←fin t ht (hd rfl)]
   exact ho
 |inr y=>
  obtain⟨left,t,hy,ht,hll,hd⟩:=hx
  obtain⟨more,y2⟩:=y
  have hy2:y2=(s.1,s.2.1,s.2.2.1,s.2.2.2.1,s.2.2.2.2,left,t):=congrArg Prod.snd hy
  subst hy2
  have ho:o∈zkA zaB u more s.1 s.2.1 s.2.2.1 s.2.2.2.1 s.2.2.2.2 left t:=ho
  unfold zkA at ho
  rcases rngLm ho with⟨he,rfl⟩|⟨p,hp,rfl⟩
  ·refine .inl ⟨_,rfl,⟨t,rfl,ht,fun hm n g hg=>hd hm n g hg fun hn=>?_⟩,?_⟩
   ·have:=kS.rngC_mem.2 ⟨hg,hn⟩
    rw[he]at this;cases this
   ·show(s.2.1.length-t.length)*(s.2.1.length+3)+(bif more then s.2.1.length+2 else 0)<(s.2.1.length-t.length)*(s.2.1.length+3)+left.length+1+(bif more then s.2.1.length+3 else 0)
    cases more<;>simp only[cond_true,cond_false]<;>omega
  ·obtain⟨hp1,hp2⟩:=kS.rngC_mem.1 hp
   have hgl:=h.gl p.1 p.2 hp1
   have hlen:∀i,i<3→(lst i p.2).length≤64:=fun i hi=>h.lst_len hp1 hi
   have hd1:=kS.rngD_len hp2
   rw[kS.get_mem h.gR (k:=p.1) (v:=p.2) hp1,zaA]
   simp only
   have stay:done t p.1 p.2→(∃s',(some (.inl (.inr (more,s.1,s.2.1,s.2.2.1,s.2.2.2.1,s.2.2.2.2,rngD keqS left p.1,t))):Option ((T7⊕T8)⊕(UM×GM×RM×CM×MM×SM)))=some (.inl s')∧(match s' with
     |.inl y=>∃t,y=(y.1,s.1,s.2.1,s.2.2.1,s.2.2.2.1,s.2.2.2.2,t)∧ok t∧(y.1=false→∀n g,(n,g)∈s.2.1→done t n g)
     |.inr y=>∃left t,y=(y.1,s.1,s.2.1,s.2.2.1,s.2.2.2.1,s.2.2.2.2,left,t)∧ok t∧left.length≤s.2.1.length∧(y.1=false→∀n g,(n,g)∈s.2.1→n∉left→done t n g))∧(match s' with
     |.inl y=>(s.2.1.length-y.2.2.2.2.2.2.length)*(s.2.1.length+3)+bif y.1 then s.2.1.length+2 else 0
     |.inr y=>(s.2.1.length-y.2.2.2.2.2.2.2.length)*(s.2.1.length+3)+y.2.2.2.2.2.2.1.length+1+bif y.1 then s.2.1.length+3 else 0)<(s.2.1.length-t.length)*(s.2.1.length+3)+left.length+1+bif more then s.2.1.length+3 else 0):=fun hdn=>by
    refine⟨_,rfl,⟨_,t,rfl,ht,by omega,fun hm n g hg hn=>?_⟩,?_⟩
    ·by_cases e:n=p.1
     ·subst e
      have:=kS.get_mem h.gR (k:=p.1) (v:=g) hg
      rw[kS.get_mem h.gR (k:=p.1) (v:=p.2) hp1]at this
      cases this
      exact hdn
     ·exact hd hm n g hg fun hn2=>hn (kS.rngD_mem.2 ⟨hn2,e⟩)
    ·simp only;omega
   have add:InG s.2.1 u p.1→mhas keqS t p.1=false→(∃s',(some (.inl (.inr (true,s.1,s.2.1,s.2.2.1,s.2.2.2.1,s.2.2.2.2,rngD keqS left p.1,mset keqS kltS t p.1 ()))):Option ((T7⊕T8)⊕(UM×GM×RM×CM×MM×SM)))=some (.inl s')∧(match s' with
     |.inl y=>∃t,y=(y.1,s.1,s.2.1,s.2.2.1,s.2.2.2.1,s.2.2.2.2,t)∧ok t∧(y.1=false→∀n g,(n,g)∈s.2.1→done t n g)
     |.inr y=>∃left t,y=(y.1,s.1,s.2.1,s.2.2.1,s.2.2.2.1,s.2.2.2.2,left,t)∧ok t∧left.length≤s.2.1.length∧(y.1=false→∀n g,(n,g)∈s.2.1→n∉left→done t n g))∧(match s' with
     |.inl y=>(s.2.1.length-y.2.2.2.2.2.2.length)*(s.2.1.length+3)+bif y.1 then s.2.1.length+2 else 0
     |.inr y=>(s.2.1.length-y.2.2.2.2.2.2.2.length)*(s.2.1.length+3)+y.2.2.2.2.2.2.1.length+1+bif y.1 then s.2.1.length+3 else 0)<(s.2.1.length-t.length)*(s.2.1.length+3)+left.length+1+bif more then s.2.1.length+3 else 0):=fun hin hno=>by
    have ht2:ok (mset keqS kltS t p.1 ()):=by
     refine⟨kS.set_ri ht.1,fun n hn=>?_⟩
     rw[zeI,kS.set_get ht.1]at hn
     by_cases e:keqS p.1 n=true
     ·rw[←kS.e.1 e];exact hin
     ·rw[if_neg e,←zeI]at hn;exact ht.2 n hn
    refine⟨_,rfl,⟨_,_,rfl,ht2,by omega,fun hm=>by cases hm⟩,?_⟩
    have hlen2:=okl _ ht2
    have e:(mset keqS kltS t p.1 ()).length=t.length+1:=by rw[zuG,hno,if_neg (by simp)]
    simp only[cond_true]
    rw[e]at hlen2 ⊢
    obtain⟨d,hd⟩:∃d,s.2.1.length-t.length=d+1:=⟨s.2.1.length-t.length-1,by omega⟩
    rw[hd,show s.2.1.length-(t.length+1)=d by omega,Nat.succ_mul]
    have:(bif more then s.2.1.length+3 else 0)≥0:=Nat.zero_le _
    omega
   cases h1:mhas keqS t p.1 with
   |true=>exact .inl (stay (.inl h1))
   |false=>
    rw[cond_false,show zdE zaB p.2.1.2.1 t=_ from cont_ok _ t (show(lst 1 p.2).length≤_ by have:=hlen 1 (by decide);omega),zaA]
    simp only
    cases h2:p.2.1.2.1.any fun x=>mhas keqS t x with
    |true=>
     obtain⟨x,hx,hxt⟩:=List.any_eq_true.1 h2
     exact .inl (add (.sub hp1 hx (ht.2 x hxt)) h1)
    |false=>
     rw[cond_false,show zaV zaB p.2.1.1 u=_ from ybF u (hgl 0 (by decide)).1 (show(lst 0 p.2).length≤_ by have:=hlen 0 (by decide);omega),zaA]
     cases h3:p.2.1.1.contains u with
     |true=>exact .inl (add (.dir hp1 (List.contains_iff_mem.1 h3)) h1)
     |false=>
      refine .inl (stay (.inr ⟨fun hu=>?_,fun x hx=>?_⟩))
      ·rw[List.contains_iff_mem.2 (show u∈p.2.1.1 from hu)]at h3;cases h3
      ·have:=List.any_eq_false.1 h2 x hx
       simpa using this
theorem in_ok{B:Int}{s:PS}(h:PInv B s)(u:L8):zbS zaB u s.1 s.2.1 s.2.2.1 s.2.2.2.1 s.2.2.2.2=some (inE s.2.1 u,s):=by
 obtain⟨z,hz,hzm,hr⟩:=in_rng h u
 have hl:=h.gL
 have hkey:∀p∈z,mhas keqS s.2.1 p.1=true:=fun p hp=>((hzm p.1).1 (kS.has_iff.2 ⟨p.2,hp⟩)).key
 have hzl:z.length≤32:=by
  have hn:(z.map (·.1)).Nodup:=(List.pairwise_map.2 (hz.imp fun {p q} hpq=>kS.lt_ne hpq):(z.map (·.1)).Pairwise (· ≠ ·))
  have:=ziU hn (m:=s.2.1.map (·.1)) fun x hx=>by
   obtain⟨p,hp,rfl⟩:=List.mem_map.1 hx
   obtain⟨g,hg⟩:=kS.has_iff.1 (hkey p hp)
   exact List.mem_map.2 ⟨_,hg,rfl⟩
  rw[List.length_map,List.length_map]at this
  omega
 unfold zbS yaB
 rw[hr,zaA,zaA,ztD hz (by omega) fun p hp=>by
  obtain⟨g,hg⟩:=kS.has_iff.1 (hkey p hp)
  exact Nat.le_trans (zzS (h.gn p.1 g hg).1) (by decide),zaA]
 have e:z.map (·.1)=inE s.2.1 u:=by
  refine RiL.ext (List.pairwise_map.2 hz) (xfI h.gR u) fun n=>?_
  rw[yoA,←hzm,kS.has_iff]
  constructor
  ·intro hn
   obtain⟨p,hp,rfl⟩:=List.mem_map.1 hn
   exact⟨p.2,hp⟩
  ·rintro⟨v,hv⟩
   exact List.mem_map.2 ⟨_,hv,rfl⟩
 rw[e]
end Go.Proofs.YtopanhneegpgcaaGreatDoor.Am
namespace Go.Proofs.YtopanhneegpgcaaGreatDoor
open Go Go.RowKit
section
open Go Go.RowKit Go.ChangeShapes Go.WideShapes Go.ChangeAt
section
variable {H:Type}{enc:TypeId×Value→H}{P:Program}{W W':World}
theorem yfE(hl:laidOutB P=true)(hx:Below W.heap.size W W'):∀{ts:List TypeId} {vs:LV} {ds:List (DataW H)} {ps:List MemPlace},ts.all (fun t=>P.readableRec t&&decide (t<P.types.size))=true →
  DataW.TrodAll enc P W 0 (fun _=>true) true ts vs ds ps→(∀x∈ps,x.block<W.heap.size)→DataW.TrodAll enc P W' 0 (fun b=>decide (b<W.heap.size)) true ts vs ds ps
 |[],vs,ds,ps,_,h,_=>by
  obtain⟨rfl,rfl,rfl⟩:=trodAll_nil h
  exact trodAll_mk0
 |t::ts,vs,ds,ps,ha,h,hlt=>by
  obtain⟨v,vs',d,ds',p,q,rfl,rfl,rfl,h0,hr⟩:=trodAll_cons h
  simp only[List.all_cons,Bool.and_eq_true,decide_eq_true_eq]at ha
  exact trodAll_cons_mk (Below.trod hl ha.1.1 ha.1.2 h0 hx fun x hx=>hlt x (List.mem_append.2 (.inl hx)))
   (yfE hl hx ha.2 hr fun x hx=>hlt x (List.mem_append.2 (.inr hx)))
theorem trodAll_length:∀{ts:List TypeId} {vs:LV} {ds:List (DataW H)} {ps:List MemPlace} {w:World} {b:Nat} {sp:Nat→Bool} {hd:Bool},DataW.TrodAll enc P w b sp hd ts vs ds ps→vs.length=ts.length∧ds.length=ts.length
 |[],vs,ds,ps,_,_,_,_,h=>by
  obtain⟨rfl,rfl,rfl⟩:=trodAll_nil h
  exact⟨rfl,rfl⟩
 |t::ts,vs,ds,ps,_,_,_,_,h=>by
  obtain⟨v,vs',d,ds',p,q,rfl,rfl,rfl,h0,hr⟩:=trodAll_cons h
  have:=trodAll_length hr
  simp[this.1,this.2]
theorem xdS{f:Func}{s:ChangeSpec}{args:Array Value}{ds gs:List (DataW H)}{before:List MemPlace}{B:TypeId}{n:Nat}(hl:laidOutB P=true)(hv:s.vars=[])
  (hp:f.params.toList.all (fun t=>P.readableRec t&&decide (t<P.types.size))=true) (hn:f.params.toList.length=n) (hB:P.underlying B=some .bool) (hr:f.resultTypes = #[B])
  (hfn:∀ds:List (DataW H),ds.length=n→(s.fn H (ds++[])).results=[.lit (.bool true)]∧(s.fn H (ds++[])).args=ds∧(s.fn H (ds++[])).vars=[])
  (hW:DataW.Whole enc P f.params.toList s.vars false W args.toList ds gs before) (hx:Ext W W'):s.post enc P f false true false false W args (.bool true) W':=by
 have hW':=hW
 obtain⟨p,q,hA,hV,rfl,_,_⟩:=hW
 rw[hv]at hV
 obtain⟨rfl,rfl⟩:=trodVars_none hV
 have hA:DataW.TrodAll enc P W 0 (fun _=>true) true f.params.toList args.toList ds p:=hA
 have hlen:=trodAll_length hA
 obtain⟨f1,f2,f3⟩:=hfn ds (hlen.2.trans hn)
 refine⟨ds,[],p++[],[],p,[],hW',?_,?_,?_,Below.frame hx _,fun h=>by cases h⟩
 ·rw[f1,hr]
  exact trodAll_mk1 (shut_bool hB _)
 ·rw[f2]
  exact yfE hl hx hp hA fun x hxp=>by simpa using hW'.lt x (by simp[hxp])
 ·rw[f3,hv];exact rfl
variable {b0:Nat}{T E:TypeId}{v:Value}
theorem xcH{fits:TypeId→Bool}:∀{d:Nat} {e:TypeId} {count off n:Nat},rowAt P fits d e count off n=true→off≤count*P.cellsOf e
 |0,_,_,_,_,h=>by simp[rowAt]at h
 |d+1,e,count,off,n,h=>by
  unfold rowAt at h
  by_cases hs:P.cellsOf e=0
  ·simp[hs]at h
  ·have hd:=Nat.div_add_mod off (P.cellsOf e)
   have hm:=Nat.mod_lt off (Nat.pos_of_ne_zero hs)
   simp only[hs,if_false,Bool.or_eq_true,Bool.and_eq_true,decide_eq_true_eq,beq_iff_eq]at h
   rcases h with⟨⟨h1,h2⟩,_⟩|⟨h1,_⟩
   ·have h3:P.cellsOf e*(off/P.cellsOf e)≤P.cellsOf e*count:=Nat.mul_le_mul_left _ (by omega)
    rw[Nat.mul_comm count];omega
   ·have h3:P.cellsOf e*(off/P.cellsOf e+1)≤P.cellsOf e*count:=Nat.mul_le_mul_left _ (by omega)
    rw[Nat.mul_add,Nat.mul_one]at h3
    rw[Nat.mul_comm count];omega
theorem ylU:∀{d:Nat} {e:TypeId} {count off:Nat} {u:TypeId} {n:Nat},liesAt P d e count off u n=true→off≤count*P.cellsOf e
 |0,_,_,_,_,_,h=>by simp[liesAt]at h
 |d+1,e,count,off,u,n,h=>by
  unfold liesAt at h
  rw[Bool.or_eq_true]at h
  rcases h with h|h
  ·exact xcH h
  ·split at h
   ·exact ylU h
   ·cases h
theorem xeE{a:Addr}{len cap:Nat}(hu:P.underlying T=some (.slice E))(h:Value.okWide P W .any b0 T (.slice (some a) len cap)):
  a.spot=none∧∃cs R fz,W.heap[a.block]? = some (.cells cs R fz)∧a.off≤cs.size:=by
 simp only[Value.okWide,Cell.okWide,Cell.ok,hu]at h
 obtain⟨_,_,_,h2,row,cells,h3,h4⟩:=h
 refine⟨h2,?_⟩
 unfold World.shape? at h3
 split at h3
 ·rename_i c elem fz hb
  simp only[Option.some.injEq,Prod.mk.injEq]at h3
  obtain⟨rfl,rfl⟩:=h3
  have h5:=ylU h4
  have h6:=Nat.div_mul_le_self c.size (P.cellsOf elem)
  exact⟨c,_,fz,hb,by omega⟩
 ·cases h3
theorem ok_slice(hu:P.underlying T=some (.slice E))(h:Value.okWide P W .any b0 T v):v = .slice none 0 0∨∃a len cap,v = .slice (some a) len cap:=by
 simp only[Value.okWide,Cell.okWide,Cell.ok,hu]at h
 cases v with
 |slice a len cap=>
  cases a with
  |none=>
   left
   cases len with
   |zero=>cases cap with
    |zero=>rfl
    |succ n=>simp at h
   |succ n=>simp at h
  |some a=>exact .inr ⟨a,len,cap,rfl⟩
 |_=>simp at h
theorem yrS{l r:List (DataW H)}:Rows.uptoBulkAll (l++r)=Rows.uptoBulkAll l+Rows.uptoBulkAll r:=by
 induction l with
 |nil=>simp[Rows.uptoBulkAll]
 |cons x l ih=>simp only[List.cons_append,Rows.uptoBulkAll,ih];omega
end
end
end Go.Proofs.YtopanhneegpgcaaGreatDoor
namespace Go.Proofs.YtopanhneegpgcaaGreatDoor.Am
open Go Go.RowKit Go.ChangeShapes Go.WideShapes Go.ChangeAt
def dsz:(t:Ty)→den t→Nat
 |.s,x=>List.length x+1
 |.pr a c,x=>dsz a x.1+dsz c x.2
 |.un,_=>0
 |.sl e,x=>(List.map (dsz e) x).sum+1
 |_,_=>1
def fOk(q:TypeId→Ty→Bool)(c:TypeId→Nat):List Field→Nat→Ty→Bool
 |[],_,t=>match t with
  |.un=>true
  |_=>false
 |[f],off,t=>(q f.type t&&(Nat.beq f.offset off&&Nat.beq (c f.type) (tsz t)))||(match t with
  |.pr a .un=>q f.type a&&(Nat.beq f.offset off&&Nat.beq (c f.type) (tsz a))
  |_=>false)
 |f::g::fs,off,t=>match t with
  |.pr a r=>(q f.type a&&(Nat.beq f.offset off&&Nat.beq (c f.type) (tsz a)))&&fOk q c (g::fs) (off+tsz a) r
  |_=>false
def tyOk(P:Program):Nat→TypeId→Ty→Bool
 |0,_,_=>false
 |n+1,T,t=>match P.underlying T,t with
  |some (.int k),.i k'=>(ikEq k k').isSome
  |some .bool,.b=>true
  |some .string,.s=>true
  |some (.slice E),.sl e=>tyOk P n E e&&(Nat.beq (P.cellsOf E) (tsz e)&&Nat.blt 0 (tsz e))
  |some (.struct fs),t=>(Nat.beq (P.cellsOf T) (tsz t) && !(one t))&&fOk (tyOk P n) P.cellsOf fs.toList 0 t
  |_,_=>false
section
variable {H:Type}{enc:TypeId×Value→H}{P:Program}{W:World}{sp:Nat→Bool}{S:Mem}
theorem toI_wf:∀{k:IntKind} {n:Int},(Lit.int k n).wf=true→toI k (ofI k n)=n:=fun {k n} h=>by
 rw[yvJ]
 cases k<;>simp[Lit.wf,IntKind.min,IntKind.max,IntKind.signed,IntKind.bits]at h<;>simp[IntKind.wrap,IntKind.signed,IntKind.bits]<;>omega
theorem ymJ{a c:Ty}{cs:LV}{x:den a}{y:den c}(hx:rep a S (cs.take (tsz a)) x)(hy:rep c S (cs.drop (tsz a)) y):rep (.pr a c) S cs (x,y):=
 ⟨_,_,(List.take_append_drop (tsz a) cs).symm,hx,hy⟩
theorem xfN:rep .un S ([]:LV) ():=rfl
theorem ymB{q:TypeId→Ty→Bool}{fuel:Nat}(hq:∀(T:TypeId) (t:Ty),q T t=true→∀cs d ps,DataW.trod enc P W 0 sp true fuel T cs=some (d,ps)→∃x:den t,rep t S cs x∧dsz t x≤Rows.uptoBulk d){cs:LV}:
  ∀(fs:List Field) (off:Nat) (t:Ty) (xs:List (DataW H×List MemPlace)),fOk q P.cellsOf fs off t=true→cs.length=off+tsz t →
   A2 (fun(f:Field) y=>DataW.trod enc P W 0 sp true fuel f.type ((cs.drop f.offset).take (P.cellsOf f.type))=some y) fs xs →
   ∃x:den t,rep t S (cs.drop off) x∧dsz t x≤Rows.uptoBulkAll (xs.map (·.1))
 |[],off,t,xs,h,hl,hA=>by
  cases t<;>simp only[fOk]at h<;>try (cases h;done)
  cases hA
  refine⟨(),?_,Nat.zero_le _⟩
  rw[List.drop_eq_nil_of_le (by rw[hl];exact Nat.le_refl _)]
  exact xfN
 |[f],off,t,xs,h,hl,hA=>by
  cases hA with
  | @cons _ y _ _ h1 h2=>
   cases h2
   simp only[fOk,Bool.or_eq_true]at h
   rcases h with h|h
   ·rw[Bool.and_eq_true,Bool.and_eq_true]at h
    obtain⟨h0,h2,h3⟩:=h
    have h2:=Nat.eq_of_beq_eq_true h2
    have h3:=Nat.eq_of_beq_eq_true h3
    obtain⟨x,hx,hd⟩:=hq _ _ h0 _ _ _ h1
    refine⟨x,?_,by simp only[List.map_cons,List.map_nil,Rows.uptoBulkAll];omega⟩
    rw[h2,h3,List.take_of_length_le (by rw[List.length_drop];omega)]at hx
    exact hx
   ·cases t with
    |pr a c=>
     cases c with
     |un=>
      rw[Bool.and_eq_true,Bool.and_eq_true]at h
      obtain⟨h0,h2,h3⟩:=h
      have h2:=Nat.eq_of_beq_eq_true h2
      have h3:=Nat.eq_of_beq_eq_true h3
      obtain⟨x,hx,hd⟩:=hq _ _ h0 _ _ _ h1
      rw[h2,h3]at hx
      have hl:cs.length=off+tsz a:=hl
      refine⟨(x,()),ymJ hx ?_,by simp only[List.map_cons,List.map_nil,Rows.uptoBulkAll];show dsz a x+0≤_;omega⟩
      rw[List.drop_eq_nil_of_le (by rw[List.length_drop];omega)]
      exact xfN
     |_=>simp at h
    |_=>simp at h
 |f::g::fs,off,t,xs,h,hl,hA=>by
  cases t with
  |pr a r=>
   simp only[fOk]at h
   rw[Bool.and_eq_true,Bool.and_eq_true,Bool.and_eq_true]at h
   obtain⟨⟨h1,h2,h3⟩,h4⟩:=h
   have h2:=Nat.eq_of_beq_eq_true h2
   have h3:=Nat.eq_of_beq_eq_true h3
   have hl:cs.length=off+(tsz a+tsz r):=hl
   cases hA with
   | @cons _ y _ ys g1 g2=>
    obtain⟨x,hx,hd⟩:=hq _ _ h1 _ _ _ g1
    obtain⟨z,hz,he⟩:=ymB hq (g::fs) (off+tsz a) r ys h4 (by omega) g2
    rw[h2,h3]at hx
    refine⟨(x,z),ymJ hx (by rw[List.drop_drop];exact hz),?_⟩
    simp only[List.map_cons,Rows.uptoBulkAll]
    show dsz a x+dsz r z≤_
    omega
  |_=>simp[fOk]at h
theorem A2_get{α β:Type}{R:α→β→Prop}:∀{l:List α} {m:List β},l.length=m.length→(∀(i:Nat) (a:α) (b:β),l[i]? = some a→m[i]? = some b→R a b)→A2 R l m
 |[],[],_,_=>.nil
 |[],_::_,h,_=>by cases h
 |_::_,[],h,_=>by cases h
 |a::l,b::m,h,hR=>.cons (hR 0 a b rfl rfl) (A2_get (by simpa using h) fun i a b ha hb=>hR (i+1) a b (by simpa using ha) (by simpa using hb))
theorem xaW{e:Ty}:∀{xs:List (den e)} {cs ds:LV} {x:den e},@RL (den e) (rpD e) S cs xs→rep e S ds x→@RL (den e) (rpD e) S (cs++ds) (xs++[x])
 |[],cs,ds,x,h,hx=>by
  have h:cs=[]:=h
  subst h
  exact⟨ds,[],by simp,hx,rfl⟩
 |y::xs,cs,ds,x,h,hx=>by
  obtain⟨c,d,rfl,h1,h2⟩:=h
  exact⟨c,d++ds,by simp,h1,xaW h2 hx⟩
theorem sl_of{T E:TypeId}{e:Ty}{fuel:Nat}(hu:P.underlying T=some (.slice E))(hc:P.cellsOf E=tsz e)(hz:0<tsz e)(hq:∀(m:Nat) (cs:LV) (d:DataW H) (ps:List MemPlace),DataW.trod enc P W 0 (fun _=>true) true m E cs=some (d,ps)→∃x:den e,rep e (ztB W) cs x∧dsz e x≤Rows.uptoBulk d){cs:LV}{d:DataW H}{ps:List MemPlace}(hd:DataW.trod enc P W 0 (fun _=>true) true fuel T cs=some (d,ps)):
  ∃xs:List (den e),rep (.sl e) (ztB W) cs xs∧dsz (.sl e) xs≤Rows.uptoBulk d:=by
 rcases DataW.trod_slice hu hd with⟨rfl,h2⟩|⟨a,len,cap,elems,rest,m,rfl,rfl,h2,_,hlc,_,hel,hget,hrest,_⟩
 ·cases h2
  exact⟨[],⟨_,rfl,[],.inl ⟨⟨none,rfl⟩,rfl,rfl⟩,rfl⟩,Nat.le_refl _⟩
 ·cases h2
  by_cases hcap:cap=0
  ·subst hcap
   obtain rfl:len=0:=by omega
   refine⟨[],⟨_,rfl,[],.inl ⟨⟨some a,rfl⟩,rfl,rfl⟩,rfl⟩,?_⟩
   show 0+1≤_
   simp only[Rows.uptoBulk]
   omega
  have h0:∃us,W.cells? 0 a (P.cellsOf E)=some us:=by
   by_cases hl0:len=0
   ·subst hl0
    obtain⟨g1,g2⟩:=hrest rfl
    have g3:=g2 0 (by omega)
    rw[List.getElem?_eq_getElem (by omega:0<rest.length)]at g3
    obtain⟨us,hus,_⟩:=Option.bind_eq_some_iff.1 g3
    rw[show a.add ((0+0)*P.cellsOf E)=a by simp[Addr.add]]at hus
    exact⟨us,hus⟩
   ·have g3:=hget 0 (by omega)
    rw[List.getElem?_eq_getElem (by omega:0<elems.length)]at g3
    obtain⟨us,hus,_⟩:=Option.bind_eq_some_iff.1 g3
    rw[show a.add (0*P.cellsOf E)=a by simp[Addr.add]]at hus
    exact⟨us,hus⟩
  obtain⟨us,hus⟩:=h0
  obtain⟨_,hul,huc⟩:=World.cells?_some hus
  have hc0:=huc 0 (by omega)
  rw[show a.add 0=a by simp[Addr.add],List.getElem?_eq_getElem (by omega:0<us.length)]at hc0
  obtain⟨blk,off,spot⟩:=a
  obtain⟨cs,R,fz,hb,hsp,ho⟩:∃cs R fz,W.heap[blk]? = some (.cells cs R fz)∧spot=none∧off≤cs.size:=by
   unfold World.cell? at hc0
   dsimp only at hc0
   split at hc0
   ·rename_i c R fz hb
    cases spot with
    |some s=>simp at hc0
    |none=>
     rw[if_neg (by simp)]at hc0
     have:=(Array.getElem?_eq_some_iff.1 hc0).1
     exact⟨c,R,fz,hb,rfl,Nat.le_of_lt this⟩
   ·cases hc0
  subst hsp
  have ad:∀j,(⟨blk,off,none⟩:Addr).add j=⟨blk,off+j,none⟩:=fun j=>by simp[Addr.add]
  have each:∀i,i<len→∃y x,elems[i]? = some y∧rep e (ztB W) (piece cs.toList (off+i*tsz e) (tsz e)) x∧dsz e x≤Rows.uptoBulk y.1∧off+(i+1)*tsz e≤cs.toList.length:=fun i hi=>by
   have hg:=hget i hi
   obtain⟨y,hy⟩:∃y,elems[i]? = some y:=⟨_,List.getElem?_eq_getElem (by omega)⟩
   rw[hy]at hg
   obtain⟨us,hus,hg⟩:=Option.bind_eq_some_iff.1 hg
   obtain⟨_,hul,huc⟩:=World.cells?_some hus
   obtain⟨x,hx,hdx⟩:=hq m us y.1 y.2 hg
   rw[hc,ad]at huc
   rw[hc]at hul
   have hcell:∀j,j<tsz e→cs.toList[off+i*tsz e+j]? = us[j]?:=fun j hj=>by
    have:=huc j hj
    rw[show(⟨blk,off+i*tsz e,none⟩:Addr).add j=⟨blk,off+i*tsz e+j,none⟩ by simp[Addr.add]]at this
    simp only[World.cell?,hb,Option.isSome_none,if_neg (show ¬(false=true) by decide)]at this
    simpa using this
   have hlen:off+(i+1)*tsz e≤cs.toList.length:=by
    have h1:=hcell (tsz e-1) (by omega)
    rw[List.getElem?_eq_getElem (by omega:tsz e-1<us.length)]at h1
    have:=(List.getElem?_eq_some_iff.1 h1).1
    rw[Nat.add_mul];omega
   refine⟨y,x,hy,?_,hdx,hlen⟩
   have:piece cs.toList (off+i*tsz e) (tsz e)=us:=by
    apply List.ext_getElem?
    intro j
    rw[zaS,List.getElem?_take]
    by_cases hj:j<tsz e
    ·rw[if_pos hj,List.getElem?_drop];exact hcell j hj
    ·rw[if_neg hj,List.getElem?_eq_none (by omega)]
   rw[this];exact hx
  have key:∀k,k≤len→∃xs:List (den e),xs.length=k∧@RL (den e) (rpD e) (ztB W) (piece cs.toList off (k*tsz e)) xs∧(List.map (dsz e) xs).sum≤Rows.uptoBulkAll ((elems.take k).map (·.1)):=by
   intro k
   induction k with
   |zero=>intro _;exact⟨[],rfl,by simp[piece,RL],Nat.zero_le _⟩
   |succ k ih=>
    intro hk
    obtain⟨xs,h1,h2,h3⟩:=ih (by omega)
    obtain⟨y,x,g1,g2,g3,_⟩:=each k (by omega)
    refine⟨xs++[x],by simp[h1],?_,?_⟩
    ·have e2:piece cs.toList off ((k+1)*tsz e)=piece cs.toList off (k*tsz e)++piece cs.toList (off+k*tsz e) (tsz e):=by
      rw[zaS,zaS,zaS,Nat.add_mul,Nat.one_mul,List.take_add,List.drop_drop]
     rw[e2]
     exact xaW h2 g2
    ·rw[List.take_add_one,g1]
     simp only[Option.toList_some,List.map_append,List.map_cons,List.map_nil,List.sum_append,List.sum_cons,List.sum_nil,yrS,Rows.uptoBulkAll]
     omega
  obtain⟨xs,h1,h2,h3⟩:=key len (Nat.le_refl _)
  have hfit:off+len*tsz e≤cs.toList.length:=by
   rcases Nat.eq_zero_or_pos len with h0|h0
   ·subst h0;rw[Array.length_toList];omega
   ·obtain⟨_,_,_,_,_,h4⟩:=each (len-1) (by omega)
    rwa[Nat.sub_add_cancel h0]at h4
  refine⟨xs,⟨_,rfl,piece cs.toList off (len*tsz e),?_,h2⟩,?_⟩
  ·right
   refine⟨blk,off,cap,cs.toList,R,fz,?_,by rw[h1];exact hlc,by simpa[ztB]using hb,?_,?_⟩
   ·rw[h1]
   ·rw[h1];show _+_*(rpD e).sz≤_;rw[zjH];exact hfit
   ·rw[h1];show piece _ _ (_*(rpD e).sz)=_;rw[zjH]
  ·rw[List.take_of_length_le (by omega)]at h3
   show(List.map (dsz e) xs).sum+1≤_
   simp only[Rows.uptoBulk]
   omega
theorem yjZ:∀(n:Nat) (T:TypeId) (t:Ty),tyOk P n T t=true→∀(fuel:Nat) (cs:LV) (d:DataW H) (ps:List MemPlace),DataW.trod enc P W 0 (fun _=>true) true fuel T cs=some (d,ps)→∃x:den t,rep t (ztB W) cs x∧dsz t x≤Rows.uptoBulk d
 |0,_,_,h,_,_,_,_,_=>by cases h
 |n+1,T,t,h,fuel,cs,d,ps,hd=>by
  unfold tyOk at h
  split at h
  ·rename_i k k' hu
   obtain⟨hk,_⟩:=Option.isSome_iff_exists.1 h
   obtain rfl:=hk.down
   obtain⟨m,rfl,he,hw⟩:=DataW.trod_int hu hd
   cases he
   exact⟨ofI _ m,(by show [Value.int _ m]=[.int _ (toI _ (ofI _ m))];rw[toI_wf hw]),Nat.le_refl 1⟩
  ·rename_i hu
   obtain⟨b,rfl,he⟩:=DataW.trod_bool hu hd
   cases he
   exact⟨b,rfl,Nat.le_refl 1⟩
  ·rename_i hu
   obtain⟨s,rfl,he,_⟩:=DataW.trod_string hu hd
   cases he
   exact⟨s.data.toList,(by show [Value.string s]=[str s.data.toList];simp[str]),Nat.le_refl _⟩
  ·rename_i E e hu
   rw[Bool.and_eq_true,Bool.and_eq_true]at h
   obtain⟨h1,h2,h3⟩:=h
   exact sl_of hu (Nat.eq_of_beq_eq_true h2) (by rw[zlT]at h3;simpa using h3) (fun m cs d ps hd=>yjZ n E e h1 m cs d ps hd) hd
  ·rename_i fs hu
   rw[Bool.and_eq_true,Bool.and_eq_true]at h
   obtain⟨⟨h1,_⟩,h2⟩:=h
   have h1:=Nat.eq_of_beq_eq_true h1
   obtain⟨xs,fuel,rfl,he,hl,hxl,hm⟩:=DataW.trod_struct hu hd
   cases he
   obtain⟨x,hx,hb⟩:=ymB (S:=ztB W) (fuel:=fuel) (fun T' t' hq cs d ps=>yjZ n T' t' hq fuel cs d ps) fs.toList 0 _ xs h2 (by rw[hl,h1];omega) (A2_get (by simp[hxl]) fun i f y hf hy=>(hm i f (by simpa using hf)).trans hy)
   exact⟨x,by simpa using hx,by simp only[Rows.uptoBulk];omega⟩
  ·cases h
variable {b0:Nat}{T E:TypeId}{v:Value}
theorem xeK{n:Nat}{e:Ty}(hu:P.underlying T=some (.slice E))(he:tyOk P n E e=true)(hc:P.cellsOf E=tsz e)(hz:0<tsz e)(h:Value.okWide P W .any b0 T v){d:DataW H}{ps:List MemPlace}(hd:DataW.Trod enc P W 0 (fun _=>true) true T v d ps):
  ∃xs:List (den e),@RdS (den e) (rpD e) (ztB W) v xs∧dsz (.sl e) xs≤Rows.uptoBulk d:=by
 obtain⟨fuel,hf⟩:=hd
 have hv:=ok_slice hu h
 have hcells:v.cells.toList=[v]:=by
  rcases hv with rfl|⟨a,len,cap,rfl⟩<;>rfl
 rw[hcells]at hf
 rcases DataW.trod_slice hu hf with⟨h1,h2⟩|⟨a,len,cap,elems,rest,m,rfl,h1,h2,_,hlc,_,hel,hget,_,_⟩
 ·simp only[List.cons.injEq,and_true]at h1
  subst h1
  cases h2
  exact⟨[],⟨[],.inl ⟨⟨none,rfl⟩,rfl,rfl⟩,rfl⟩,Nat.le_refl _⟩
 ·simp only[List.cons.injEq,and_true]at h1
  subst h1
  cases h2
  obtain⟨hsp,cs,R,fz,hb,ho⟩:=xeE hu h
  obtain⟨blk,off,spot⟩:=a
  dsimp only at hsp hb ho
  subst hsp
  have ad:∀j,(⟨blk,off,none⟩:Addr).add j=⟨blk,off+j,none⟩:=fun j=>by simp[Addr.add]
  have each:∀i,i<len→∃y x,elems[i]? = some y∧rep e (ztB W) (piece cs.toList (off+i*tsz e) (tsz e)) x∧dsz e x≤Rows.uptoBulk y.1∧off+(i+1)*tsz e≤cs.toList.length:=fun i hi=>by
   have hg:=hget i hi
   obtain⟨y,hy⟩:∃y,elems[i]? = some y:=⟨_,List.getElem?_eq_getElem (by omega)⟩
   rw[hy]at hg
   obtain⟨us,hus,hg⟩:=Option.bind_eq_some_iff.1 hg
   obtain⟨_,hul,huc⟩:=World.cells?_some hus
   obtain⟨x,hx,hdx⟩:=yjZ n E e he m us y.1 y.2 hg
   rw[hc,ad]at huc
   rw[hc]at hul
   have hcell:∀j,j<tsz e→cs.toList[off+i*tsz e+j]? = us[j]?:=fun j hj=>by
    have:=huc j hj
    rw[show(⟨blk,off+i*tsz e,none⟩:Addr).add j=⟨blk,off+i*tsz e+j,none⟩ by simp[Addr.add]]at this
    simp only[World.cell?,hb,Option.isSome_none,if_neg (show ¬(false=true) by decide)]at this
    simpa using this
   have hlen:off+(i+1)*tsz e≤cs.toList.length:=by
    have h1:=hcell (tsz e-1) (by omega)
    rw[List.getElem?_eq_getElem (by omega:tsz e-1<us.length)]at h1
    have:=(List.getElem?_eq_some_iff.1 h1).1
    rw[Nat.add_mul];omega
   refine⟨y,x,hy,?_,hdx,hlen⟩
   have:piece cs.toList (off+i*tsz e) (tsz e)=us:=by
    apply List.ext_getElem?
    intro j
    rw[zaS,List.getElem?_take]
    by_cases hj:j<tsz e
    ·rw[if_pos hj,List.getElem?_drop];exact hcell j hj
    ·rw[if_neg hj,List.getElem?_eq_none (by omega)]
   rw[this];exact hx
  have key:∀k,k≤len→∃xs:List (den e),xs.length=k∧@RL (den e) (rpD e) (ztB W) (piece cs.toList off (k*tsz e)) xs∧(List.map (dsz e) xs).sum≤Rows.uptoBulkAll ((elems.take k).map (·.1)):=by
   intro k
   induction k with
   |zero=>intro _;exact⟨[],rfl,by simp[piece,RL],Nat.zero_le _⟩
   |succ k ih=>
    intro hk
    obtain⟨xs,h1,h2,h3⟩:=ih (by omega)
    obtain⟨y,x,g1,g2,g3,_⟩:=each k (by omega)
    refine⟨xs++[x],by simp[h1],?_,?_⟩
    ·have e2:piece cs.toList off ((k+1)*tsz e)=piece cs.toList off (k*tsz e)++piece cs.toList (off+k*tsz e) (tsz e):=by
      rw[zaS,zaS,zaS,Nat.add_mul,Nat.one_mul,List.take_add,List.drop_drop]
     rw[e2]
     exact xaW h2 g2
    ·rw[List.take_add_one,g1]
     simp only[Option.toList_some,List.map_append,List.map_cons,List.map_nil,List.sum_append,List.sum_cons,List.sum_nil,yrS,Rows.uptoBulkAll]
     omega
  obtain⟨xs,h1,h2,h3⟩:=key len (Nat.le_refl _)
  have hfit:off+len*tsz e≤cs.toList.length:=by
   rcases Nat.eq_zero_or_pos len with h0|h0
   ·subst h0;rw[Array.length_toList];omega
   ·obtain⟨_,_,_,_,_,h4⟩:=each (len-1) (by omega)
    rwa[Nat.sub_add_cancel h0]at h4
  refine⟨xs,⟨piece cs.toList off (len*tsz e),?_,h2⟩,?_⟩
  ·right
   refine⟨blk,off,cap,cs.toList,R,fz,?_,by rw[h1];exact hlc,by simpa[ztB]using hb,?_,?_⟩
   ·rw[h1]
   ·rw[h1];show _+_*(rpD e).sz≤_;rw[zjH];exact hfit
   ·rw[h1];show piece _ _ (_*(rpD e).sz)=_;rw[zjH]
  ·rw[List.take_of_length_le (by omega)]at h3
   show(List.map (dsz e) xs).sum+1≤_
   simp only[Rows.uptoBulk]
   omega
def argOk(P:Program)(T:TypeId)(t:Ty):Bool:=match P.underlying T,t with
 |some (.slice E),.sl e=>tyOk P 8 E e&&(Nat.beq (P.cellsOf E) (tsz e)&&Nat.blt 0 (tsz e))
 |_,t=>tyOk P 8 T t
theorem argD_ok{t:Ty}(ha:argOk P T t=true)(h:Value.okWide P W .any b0 T v){d:DataW H}{ps:List MemPlace}(hd:DataW.Trod enc P W 0 (fun _=>true) true T v d ps):
  ∃x:den t,rep1 t (ztB W) v x∧dsz t x≤Rows.uptoBulk d:=by
 unfold argOk at ha
 split at ha
 ·rename_i E e hu
  rw[Bool.and_eq_true,Bool.and_eq_true]at ha
  obtain⟨h1,h2,h3⟩:=ha
  obtain⟨xs,g1,g2⟩:=xeK hu h1 (Nat.eq_of_beq_eq_true h2) (by rw[zlT]at h3;simpa using h3) h hd
  exact⟨xs,⟨v,rfl,g1⟩,g2⟩
 ·obtain⟨fuel,hf⟩:=hd
  obtain⟨x,hx,hb⟩:=yjZ 8 T _ ha fuel _ _ _ hf
  refine⟨x,?_,hb⟩
  unfold rep1
  unfold tyOk at ha
  split at ha
  ·rename_i hu
   have hv:v.cells.toList=[v]:=by
    simp only[Value.okWide,Cell.okWide,Cell.ok]at h
    cases v<;>simp_all<;>rfl
   rw[hv]at hx
   rw[if_pos (show one (.i _)=true from rfl)];exact hx
  ·rename_i hu
   have hv:v.cells.toList=[v]:=by
    simp only[Value.okWide,Cell.okWide,Cell.ok]at h
    cases v<;>simp_all<;>rfl
   rw[hv]at hx
   rw[if_pos (show one .b=true from rfl)];exact hx
  ·rename_i hu
   have hv:v.cells.toList=[v]:=by
    simp only[Value.okWide,Cell.okWide,Cell.ok]at h
    cases v<;>simp_all<;>rfl
   rw[hv]at hx
   rw[if_pos (show one .s=true from rfl)];exact hx
  ·rename_i hu hno
   exact(hno _ _ hu rfl).elim
  ·rename_i fs hu _
   rw[Bool.and_eq_true,Bool.and_eq_true]at ha
   simp only[Value.okWide,hu]at h
   obtain⟨cs,rfl,_,_⟩:=h
   rw[if_neg (by simpa using ha.1.2)]
   exact⟨cs.toList,by simp,hx⟩
  ·cases ha
def posT:Ty→Bool
 |.un=>false
 |.pr a c=>posT a||posT c
 |_=>true
theorem ypO:∀{e:Ty},posT e=true→∀x:den e,1≤dsz e x
 |.i _,_,_=>Nat.le_refl 1
 |.b,_,_=>Nat.le_refl 1
 |.s,_,_=>Nat.le_add_left 1 _
 |.er,_,_=>Nat.le_refl 1
 |.sl _,_,_=>Nat.le_add_left 1 _
 |.mp _ _,_,_=>Nat.le_refl 1
 |.pr a c,h,x=>by
  show 1≤dsz a x.1+dsz c x.2
  have h:(posT a||posT c)=true:=h
  rw[Bool.or_eq_true]at h
  rcases h with h|h
  ·have:=ypO h x.1;omega
  ·have:=ypO h x.2;omega
theorem yfV{e:Ty}(he:posT e=true):∀xs:List (den e),xs.length+1≤dsz (.sl e) xs
 |[]=>Nat.le_refl 1
 |x::xs=>by
  have h1:=ypO he x
  have h2:xs.length+1≤(List.map (dsz e) xs).sum+1:=yfV he xs
  show(x::xs).length+1≤(List.map (dsz e) (x::xs)).sum+1
  simp only[List.length_cons,List.map_cons,List.sum_cons]
  omega
theorem rep1_vr{t:Ty}{S:Mem}{E:List EI}{v:Value}{x:den t}(h:rep1 t S v x):VR S E (svOf t x) v:=yzX (l:=[t]) h
end
end Go.Proofs.YtopanhneegpgcaaGreatDoor.Am
namespace Go.Proofs.YtopanhneegpgcaaGreatDoor.Am
open Go Go.RowKit
theorem dsz_in{e:Ty}{x:den e}:∀{xs:List (den e)},x∈xs→dsz e x≤dsz (.sl e) xs
 |y::ys,h=>by
  show _≤(List.map (dsz e) (y::ys)).sum+1
  simp only[List.map_cons,List.sum_cons]
  rcases List.mem_cons.1 h with rfl|h
  ·omega
  ·have:dsz e x≤(List.map (dsz e) ys).sum+1:=dsz_in h
   omega
abbrev opT:Ty:=.pr (.i .i64) (.pr (.i .i64) (.pr .s (.pr .s (.pr .b (.pr (.pr .s (.sl .s)) (.pr .s (.pr .s (.pr (.sl .s) (.pr (.sl .s) (.pr .b (.pr .b (.pr .b .b))))))))))))
theorem opok_of{o:Opr}{k:Nat}(h:dsz opT o≤k)(hk:k≤1048576):Opok o:=by
 have e:dsz opT o=1+(1+(o.2.2.1.length+1+(o.2.2.2.1.length+1+(1+((o.2.2.2.2.2.1.1.length+1+dsz (.sl .s) o.2.2.2.2.2.1.2)+(o.2.2.2.2.2.2.1.length+1+(o.2.2.2.2.2.2.2.1.length+1+(dsz (.sl .s) o.2.2.2.2.2.2.2.2.1+(dsz (.sl .s) o.2.2.2.2.2.2.2.2.2.1+(1+(1+(1+1)))))))))))):=rfl
 have h1:o.2.2.2.2.2.1.2.length+1≤dsz (.sl .s) o.2.2.2.2.2.1.2:=yfV (e:=.s) rfl _
 have h2:o.2.2.2.2.2.2.2.2.1.length+1≤dsz (.sl .s) o.2.2.2.2.2.2.2.2.1:=yfV (e:=.s) rfl _
 have h3:o.2.2.2.2.2.2.2.2.2.1.length+1≤dsz (.sl .s) o.2.2.2.2.2.2.2.2.2.1:=yfV (e:=.s) rfl _
 rw[e]at h
 exact⟨by omega,by omega,by omega,by omega⟩
theorem ops_of{v:List Opr}{k:Nat}(h:dsz (.sl opT) v≤k)(hk:k≤1048576):(∀o∈v,Opok o)∧v.length≤1048576:=by
 have h1:v.length+1≤dsz (.sl opT) v:=yfV (e:=opT) rfl v
 exact⟨fun o ho=>opok_of (Nat.le_trans (dsz_in (e:=opT) ho) h) hk,by omega⟩
abbrev s0:PS:=(([]:UM),([]:GM),([]:RM),([]:CM),([]:MM))
noncomputable def xeN(v:List Opr)(s:PS):PS:=v.foldl (fun s o=>(ytL o s).2) s
theorem yqE:∀(v:List Opr) (B:Int) (s:PS),1≤B→PInv B s→PInv (B+v.length) (xeN v s)
 |[],B,s,_,h=>by
  show PInv (B+((0:Nat):Int)) s
  rw[show B+((0:Nat):Int)=B by omega];exact h
 |o::v,B,s,hB,h=>by
  have:=yqE v (B+1) (ytL o s).2 (by omega) (yrJ hB h o)
  rw[show B+1+(v.length:Int)=B+((o::v).length:Int) by rw[List.length_cons];omega]at this
  exact this
theorem new_ok:ziA zaB=some s0:=rfl
theorem ywD{v:List Opr}(hv:∀o∈v,Opok o)(hl:v.length≤1048576){B:Int}(hB1:1≤B)(hB:B≤1048577){s:PS}(hs:PInv B s){body:Int×PS→Option ((Int×PS)⊕PS)}
  (hb:∀(i:Nat) (hi:i<v.length) (t:PS),(∀r,zdK zaB v[i] t.1 t.2.1 t.2.2.1 t.2.2.2.1 t.2.2.2.2=some r→body ((i:Int),t)=some (.inl (((i+1:Nat):Int),r.2)))) (he:∀t,body ((v.length:Int),t)=some (.inr t)):
  iter body ((0:Int),s)=some (xeN v s):=by
 have key:∀(f i:Nat) (C:Int) (t:PS),f+i=v.length→1≤C→C+f≤1099511627776→PInv C t→∀g,f<g→ztZ body g ((i:Int),t)=some (xeN (v.drop i) t):=by
  intro f
  induction f with
  |zero=>
   intro i C t hi _ _ _ g hg
   obtain⟨g,rfl⟩:∃m,g=m+1:=⟨g-1,by omega⟩
   have hi:i=v.length:=by omega
   subst hi
   rw[zgH (he t),List.drop_length];rfl
  |succ f ih=>
   intro i C t hi hC hf ht g hg
   obtain⟨g,rfl⟩:∃m,g=m+1:=⟨g-1,by omega⟩
   have hlt:i<v.length:=by omega
   have hd:=does_ok (show C≤1099511627776 by omega) ht (hv _ (List.getElem_mem hlt))
   rw[zhE (hb i hlt t _ hd),ih (i+1) (C+1) _ (by omega) (by omega) (by omega) (yrJ hC ht _) g (by omega),List.drop_eq_getElem_cons hlt]
   rfl
 exact key v.length 0 B s (by omega) hB1 (by omega) hs FU (by unfold FU;omega)
theorem yoV(l:List L8)(x:L8)(hl:l.length≤1048576):zcM zaB l x=some (l.contains x):=by
 have key:∀(f i:Nat),f+i=l.length→∀g,f<g→ztZ (zcE zaB l x) g (i:Int)=some (bif(l.drop i).contains x then .inl true else .inr ()):=by
  intro f
  induction f with
  |zero=>
   intro i hi g hg
   obtain⟨g,rfl⟩:∃m,g=m+1:=⟨g-1,by omega⟩
   have hi:i=l.length:=by omega
   subst hi
   rw[List.drop_length]
   refine zgH ?_
   unfold zcE
   rw[zrW (by omega)];rfl
  |succ f ih=>
   intro i hi g hg
   obtain⟨g,rfl⟩:∃m,g=m+1:=⟨g-1,by omega⟩
   have hlt:i<l.length:=by omega
   have hb:zcE zaB l x (i:Int)=bif l[i]==x then some (.inr (.inl true))else some (.inl ((i+1:Nat):Int)):=by
    unfold zcE
    rw[zoE (by omega),zrA rfl hlt,zaA,zzE (by omega)]
   rw[List.drop_eq_getElem_cons hlt,List.contains_cons]
   cases hx:l[i]==x with
   |true=>
    rw[hx]at hb
    rw[zgH (b:=.inl true) hb,show(x==l[i])=true by rw[beq_iff_eq]at hx ⊢;exact hx.symm];rfl
   |false=>
    rw[hx]at hb
    rw[zhE (s':=((i+1:Nat):Int)) hb,ih (i+1) (by omega) g (by omega),show(x==l[i])=false by rw[beq_eq_false_iff_ne]at hx ⊢;exact fun e=>hx e.symm,Bool.false_or]
 have h0:=key l.length 0 (by omega) FU (by unfold FU;omega)
 unfold zcM
 rw[show iter (zcE zaB l x) (0:Int)=_ from h0,zaA,List.drop_zero]
 cases l.contains x<;>rfl
theorem yyT{α:Type}{l:List α}{i:Nat}(h:i<l.length):chk (decide ((0:Int)≤(i:Int))&&decide ((i:Int)<(l.length:Int)))=some ():=by
 rw[decide_eq_true (show(0:Int)≤(i:Int) by omega),decide_eq_true (show(i:Int)<(l.length:Int) by omega)];rfl
theorem xeY{σ β:Type}{body:Int×σ→Option ((Int×σ)⊕β)}{n:Nat}(hn:n≤1048576)(s:σ){b:β}(hb:∀i:Nat,i<n→body ((i:Int),s)=some (.inl (((i+1:Nat):Int),s)))(he:body ((n:Int),s)=some (.inr b)):iter body ((0:Int),s)=some b:=by
 have key:∀(f i:Nat),f+i=n→∀g,f<g→ztZ body g ((i:Int),s)=some b:=by
  intro f
  induction f with
  |zero=>
   intro i hi g hg
   obtain⟨g,rfl⟩:∃m,g=m+1:=⟨g-1,by omega⟩
   have hi:i=n:=by omega
   subst hi
   exact zgH he
  |succ f ih=>
   intro i hi g hg
   obtain⟨g,rfl⟩:∃m,g=m+1:=⟨g-1,by omega⟩
   rw[zhE (hb i (by omega))]
   exact ih (i+1) (by omega) g (by omega)
 exact key n 0 (by omega) FU (by unfold FU;omega)
theorem yvB{B:Int}(hB:1≤B){s:PS}(h:PInv B s)(n:L8):∃t:PS,t=(ztY n (zqF n (zjO n (zgI n s).2).2).2).2∧PInv (B+3) t∧(∀i,i<3→hasK i t n=false)∧mhas keqS t.2.2.2.1 n=false∧t.1=s.1.filter (fun p=>!keqS p.1 n)∧t.2.2.1.length≤s.2.2.1.length∧t.2.2.2.1.length≤s.2.2.2.1.length:=by
 have i1:=ygF (n:=n) h
 have i2:=yfK (n:=n) i1
 have i3:=yeV (n:=n) i2
 have i4:=ymQ (n:=n) i3
 have nokey:∀{γ:Type} {es:List (L8×γ)},nmB n=false→(∀k v,(k,v)∈es→nmB k=true)→mhas keqS es n=false:=fun {γ es} hn hk=>by
  cases hh:mhas keqS es n with
  |false=>rfl
  |true=>
   obtain⟨v,hv⟩:=kS.has_iff.1 hh
   rw[hk n v hv]at hn;cases hn
 have del_no:∀{γ:Type} {es:List (L8×γ)},Ri kltS es→mhas keqS (mdel keqS es n) n=false:=fun {γ es} hR=>by
  cases hh:mhas keqS (mdel keqS es n) n with
  |false=>rfl
  |true=>
   obtain⟨v,hv⟩:=kS.has_iff.1 hh
   exact absurd rfl ((kS.del_mem hR).1 hv).2
 have filter_no:∀{γ:Type} {es:List (L8×γ)},mhas keqS es n=false→es.filter (fun p=>!keqS p.1 n)=es:=fun {γ es} hh=>by
  refine List.filter_eq_self.2 fun p hp=>?_
  cases hk:keqS p.1 n with
  |false=>rfl
  |true=>
   have e:=kS.e.1 hk
   rw[kS.has_iff.2 ⟨p.2,by rw[←e];exact hp⟩]at hh;cases hh
 -- users
 have u1:mhas keqS (zgI n s).2.1 n=false∧(zgI n s).2.1=s.1.filter fun p=>!keqS p.1 n:=by
  unfold zgI
  cases hn:nmB n with
  |false=>
   have:=nokey hn fun k v hv=>(h.us k v hv).2.1
   exact⟨this,(filter_no this).symm⟩
  |true=>
   cases hh:mhas keqS s.1 n with
   |false=>exact⟨hh,(filter_no hh).symm⟩
   |true=>exact⟨del_no h.uR,kS.del_filter h.uR n⟩
 have u2:(zjO n (zgI n s).2).2.1=(zgI n s).2.1:=by
  unfold zjO
  cases nmB n with
  |false=>rfl
  |true=>cases mhas keqS (zgI n s).2.2.1 n<;>rfl
 have u3:(zqF n (zjO n (zgI n s).2).2).2.1=(zjO n (zgI n s).2).2.1:=by
  unfold zqF
  cases nmB n with
  |false=>rfl
  |true=>cases mhas keqS (zjO n (zgI n s).2).2.2.2.1 n<;>rfl
 have u4:∀t:PS,(ztY n t).2.1=t.1∧(ztY n t).2.2.1=t.2.1∧(ztY n t).2.2.2.1=t.2.2.1:=fun t=>by
  unfold ztY
  cases nmB n with
  |false=>exact⟨rfl,rfl,rfl⟩
  |true=>cases mhas keqS t.2.2.2.1 n<;>exact⟨rfl,rfl,rfl⟩
 -- groups
 have g2:mhas keqS (zjO n (zgI n s).2).2.2.1 n=false:=by
  unfold zjO
  cases hn:nmB n with
  |false=>exact nokey hn fun k v hv=>(i1.gn k v hv).1
  |true=>
   cases hh:mhas keqS (zgI n s).2.2.1 n with
   |false=>exact hh
   |true=>exact(ztS 1 n _ n).trans (del_no i1.gR)
 have g3:∀t:PS,mhas keqS (zqF n t).2.2.1 n=mhas keqS t.2.1 n:=fun t=>by
  unfold zqF
  cases nmB n with
  |false=>rfl
  |true=>
   cases mhas keqS t.2.2.1 n with
   |false=>rfl
   |true=>exact ztS 2 n _ n
 have r3:mhas keqS (zqF n (zjO n (zgI n s).2).2).2.2.2.1 n=false:=by
  unfold zqF
  cases hn:nmB n with
  |false=>
   exact nokey hn fun k v hv=>by
    have:=i2.ro k v hv
    have h2:=zaT this.2
    rw[this.1]at h2;exact h2
  |true=>
   cases hh:mhas keqS (zjO n (zgI n s).2).2.2.2.1 n with
   |false=>exact hh
   |true=>exact del_no i2.rR
 have c4:∀t:PS,PInv (B+3) t→mhas keqS (ztY n t).2.2.2.2.1 n=false∧(ztY n t).2.2.2.2.1.length≤t.2.2.2.1.length:=fun t ht=>by
  unfold ztY
  cases hn:nmB n with
  |false=>
   exact⟨nokey hn fun k v hv=>by
    have:=ht.cl k v hv
    have h2:=xfK this.2
    rw[this.1]at h2;exact h2,Nat.le_refl _⟩
  |true=>
   cases hh:mhas keqS t.2.2.2.1 n with
   |false=>exact⟨hh,Nat.le_refl _⟩
   |true=>exact⟨del_no ht.cR,(zpX _ _).length_le⟩
 have rl:∀t:PS,(zqF n t).2.2.2.1.length≤t.2.2.1.length∧(zqF n t).2.2.2.2.1=t.2.2.2.1:=fun t=>by
  unfold zqF
  cases nmB n with
  |false=>exact⟨Nat.le_refl _,rfl⟩
  |true=>
   cases mhas keqS t.2.2.1 n with
   |false=>exact⟨Nat.le_refl _,rfl⟩
   |true=>exact⟨(zpX _ _).length_le,rfl⟩
 have gl:∀t:PS,(zjO n t).2.2.2.1=t.2.2.1∧(zjO n t).2.2.2.2.1=t.2.2.2.1:=fun t=>by
  unfold zjO
  cases nmB n with
  |false=>exact⟨rfl,rfl⟩
  |true=>cases mhas keqS t.2.1 n<;>exact⟨rfl,rfl⟩
 have ul:(zgI n s).2.2.2.1=s.2.2.1∧(zgI n s).2.2.2.2.1=s.2.2.2.1:=by
  unfold zgI
  cases nmB n with
  |false=>exact⟨rfl,rfl⟩
  |true=>cases mhas keqS s.1 n<;>exact⟨rfl,rfl⟩
 have e3:B+1+1+1=B+3:=by omega
 rw[e3]at i3 i4
 obtain⟨q1,q2,q3⟩:=u4 (zqF n (zjO n (zgI n s).2).2).2
 have c5:=c4 _ i3
 refine⟨_,rfl,i4,fun i hi=>?_,c5.1,?_,?_,?_⟩
 ·match i,hi with
  |0,_=>show mhas keqS _ n=false;rw[q1,u3,u2];exact u1.1
  |1,_=>show mhas keqS _ n=false;rw[q2,g3];exact g2
  |2,_=>show mhas keqS _ n=false;rw[q3];exact r3
 ·rw[q1,u3,u2];exact u1.2
 ·rw[q3]
  have:=(rl (zjO n (zgI n s).2).2).1
  rw[(gl (zgI n s).2).1,ul.1]at this
  exact this
 ·have:=c5.2
  rw[(rl (zjO n (zgI n s).2).2).2,(gl (zgI n s).2).2,ul.2]at this
  exact this
theorem yjT{α:Type}{l:List α}{p:α→Bool}{i:Nat}(hi:i<l.length)(hp:p l[i]=true):((l.take i).filter p).length<(l.filter p).length∧(l.filter p)[((l.take i).filter p).length]? = some l[i]:=by
 have e:l.filter p=(l.take i).filter p++l[i]::(l.drop (i+1)).filter p:=by
  conv=>lhs;rw[←List.take_append_drop i l]
  rw[List.filter_append,List.drop_eq_getElem_cons hi,List.filter_cons,if_pos hp]
 rw[e]
 refine⟨by rw[List.length_append,List.length_cons];omega,?_⟩
 rw[List.getElem?_append_right (Nat.le_refl _),Nat.sub_self];rfl
theorem ypI{α:Type}{l:List α}{p:α→Bool}{i:Nat}(hi:i<l.length):((l.take (i+1)).filter p).length=((l.take i).filter p).length+(if p l[i]=true then 1 else 0):=by
 rw[List.take_succ_eq_append_getElem hi,List.filter_append,List.length_append,List.filter_cons]
 split<;>rfl
theorem yuS(v0:List Opr)(v1:L8)(hk:dsz (.sl opT) v0+dsz .s v1≤1048576):zeL zaB v0 v1=some true:=by
 have hn:dsz .s v1=v1.length+1:=rfl
 obtain⟨hv,hl⟩:=ops_of (v:=v0) (k:=1048576) (by omega) (Nat.le_refl _)
 obtain⟨s,hse⟩:∃s,s=xeN v0 s0:=⟨_,rfl⟩
 have hs:PInv (1+v0.length) s:=by rw[hse];exact yqE v0 1 s0 (Int.le_refl _) xaK
 unfold zeL
 rw[new_ok,zaA,show iter _ ((0:Int),s0)=_ from ywD hv hl (B:=1) (Int.le_refl _) (by decide) xaK (fun i hi t r hr=>by
  simp only
  unfold zdR
  rw[zoE (by omega),zrA rfl hi,zaA,hr,zaA,zzE (by omega)]) (fun t=>by
  simp only
  unfold zdR
  rw[zrW (by omega)]),zaA,←hse,yrY hs,zaA]
 simp only
 rw[ysI hs,zaA]
 simp only
 rw[yiC hs,zaA]
 simp only
 rw[ysS (by omega) hs,zaA]
 have i1:=ygF (n:=v1) hs
 have i2:=yfK (n:=v1) i1
 have i3:=yeV (n:=v1) i2
 rw[yqT (by omega) i1,zaA,yqM (by omega) i2,zaA,ysR i3,zaA]
 obtain⟨t,ht,it,hno,hnoc,hus,hrl,hcl⟩:=yvB (by omega) hs v1
 rw[←ht]
 rw[yzK it,zaA]
 simp only
 rw[mays_ok it,zaA]
 -- groups
 have hgr:∀(i:Nat) (hi:i<(grE t).length),((grE t)[i].1==v1)=false∧(grE t)[i].2.1.length≤64∧(grE t)[i].2.2.1.length≤64∧(grE t)[i].2.2.2.1.length≤64∧(grE t)[i].2.1.contains v1=false∧(grE t)[i].2.2.1.contains v1=false∧(grE t)[i].2.2.2.1.contains v1=false:=fun i hi=>by
  unfold grE at hi ⊢
  rw[List.getElem_map]
  have hi':i<t.2.1.length:=by simpa using hi
  have hm:(t.2.1[i].1,t.2.1[i].2)∈t.2.1:=List.getElem_mem hi'
  have hc:∀j,j<3→(lst j t.2.1[i].2).contains v1=false:=fun j hj=>by
   cases hcc:(lst j t.2.1[i].2).contains v1 with
   |false=>rfl
   |true=>
    have:=(it.gl _ _ hm j hj).2 v1 (List.contains_iff_mem.1 hcc)
    rw[hno j hj]at this;cases this
  refine⟨?_,it.lst_len hm (i:=0) (by decide),it.lst_len hm (i:=1) (by decide),it.lst_len hm (i:=2) (by decide),hc 0 (by decide),hc 1 (by decide),hc 2 (by decide)⟩
  refine beq_false_of_ne fun e=>?_
  have h1:=hno 1 (by decide)
  have e:t.2.1[i].1=v1:=e
  have h2:mhas keqS t.2.1 v1=true:=kS.has_iff.2 ⟨_,by rw[←e];exact hm⟩
  rw[show hasK 1 t v1=mhas keqS t.2.1 v1 from rfl,h2]at h1;cases h1
 have hgl:(grE t).length≤32:=by unfold grE;rw[List.length_map];exact it.gL
 rw[show iter _ ((0:Int),usE s,roE s,clE s,grE t,t)=_ from xeY (n:=(grE t).length) (by omega) (usE s,roE s,clE s,grE t,t) (b:=.inr (usE s,roE s,clE s,t)) (fun i hi=>by
  obtain⟨a1,a2,a3,a4,a5,a6,a7⟩:=hgr i hi
  simp only
  unfold zdP
  rw[zoE (by omega),yyT hi,zaA,zrA rfl hi,zaA,a1,cond_false,zaA,zaA,yoV _ _ (by omega),zaA,a5,cond_false,zaA,zaA,yoV _ _ (by omega),zaA,a6,cond_false,zaA,zaA,yoV _ _ (by omega),zaA,a7,cond_false,zzE (by omega)]) (by
  simp only
  unfold zdP
  rw[zrW (by omega)]),zaA]
 simp only
 -- mays
 have hma:∀(i:Nat) (hi:i<(maE t).length),((maE t)[i].1==117::58::v1)=false∧((maE t)[i].1==99::58::v1)=false∧((maE t)[i].2==117::58::v1)=false∧((maE t)[i].2==99::58::v1)=false:=fun i hi=>by
  unfold maE at hi ⊢
  rw[List.getElem_map]
  have hi':i<t.2.2.2.2.length:=by simpa using hi
  obtain⟨m1,m2,m3,m4⟩:=it.ma _ (List.getElem_mem hi')
  have hu:∀q:L8,thB t q=true→(q==117::58::v1)=false∧(q==99::58::v1)=false:=fun q hq=>by
   refine⟨beq_false_of_ne fun e=>?_,beq_false_of_ne fun e=>?_⟩
   ·subst e
    have h0:=hno 0 (by decide)
    have hq:mhas keqS t.1 v1=true:=hq
    rw[show hasK 0 t v1=mhas keqS t.1 v1 from rfl,hq]at h0;cases h0
   ·subst e
    have hq:mhas keqS t.2.2.2.1 v1=true:=hq
    rw[hq]at hnoc;cases hnoc
  exact⟨(hu _ m3).1,(hu _ m3).2,(hu _ m4).1,(hu _ m4).2⟩
 have hml:(maE t).length≤64:=by unfold maE;rw[List.length_map];exact it.mL
 have hap:∀a b:UInt8,app ([a,b]:L8) v1=some (a::b::v1):=fun a b=>by rw[yaW (by simp;omega)];rfl
 rw[show iter _ ((0:Int),usE s,roE s,clE s,t)=_ from xeY (n:=(maE t).length) (by omega) (usE s,roE s,clE s,t) (b:=.inr (usE s,roE s,clE s,t)) (fun i hi=>by
  obtain⟨a1,a2,a3,a4⟩:=hma i hi
  simp only
  unfold zdQ
  rw[zoE (by show(i:Int)<((maE t).length:Int);omega),show idx (maE t,t).1 (i:Int)=some (maE t)[i]from zrA rfl hi,zaA,hap,zaA,a1,cond_false,zaA,hap,zaA,a2,cond_false,zaA,zaA,a3,cond_false,zaA,zaA,a4,cond_false,zzE (by omega)]) (by
  simp only
  unfold zdQ
  rw[zrW (by show ¬((maE t).length:Int)<((maE t).length:Int);omega)]),zaA]
 simp only
 rw[yrY it,zaA]
 simp only
 -- users
 have hu:usE t=(usE s).filter fun u=>!(u.1==v1):=by
  unfold usE
  rw[hus]
  have:∀(l:UM),(∀k u,(k,u)∈l→u.1=k)→(l.filter fun p=>!keqS p.1 v1).map (·.2)=(l.map (·.2)).filter fun u=>!(u.1==v1):=by
   intro l
   induction l with
   |nil=>intro _;rfl
   |cons p l ih=>
    intro h
    have h1:=h p.1 p.2 List.mem_cons_self
    rw[List.filter_cons,List.map_cons,List.filter_cons,←ih fun k u hu=>h k u (List.mem_cons_of_mem _ hu),h1]
    show(if(!(p.1==v1))=true then _ else _:UM).map (·.2)=_
    cases (p.1==v1)<;>rfl
  exact this s.1 fun k u hu=>(hs.us k u hu).1
 have hul:(usE s).length≤64:=by unfold usE;rw[List.length_map];exact hs.uL
 have hb3:iter (fun x:Int×Int×List Us×List Ro×List Cl×List Us×PS=>zbP zaB v1 x.1 x.2.1 x.2.2.1 x.2.2.2.1 x.2.2.2.2.1 x.2.2.2.2.2.1 x.2.2.2.2.2.2.1 x.2.2.2.2.2.2.2.1 x.2.2.2.2.2.2.2.2.1 x.2.2.2.2.2.2.2.2.2.1 x.2.2.2.2.2.2.2.2.2.2) ((0:Int),(0:Int),usE s,roE s,clE s,usE t,t)=some (.inr (((usE t).length:Int),roE s,clE s,usE t,t)):=by
  have key:∀(f i:Nat),f+i=(usE s).length→∀g,f<g→ztZ (fun x:Int×Int×List Us×List Ro×List Cl×List Us×PS=>zbP zaB v1 x.1 x.2.1 x.2.2.1 x.2.2.2.1 x.2.2.2.2.1 x.2.2.2.2.2.1 x.2.2.2.2.2.2.1 x.2.2.2.2.2.2.2.1 x.2.2.2.2.2.2.2.2.1 x.2.2.2.2.2.2.2.2.2.1 x.2.2.2.2.2.2.2.2.2.2) g (((((usE s).take i).filter fun u=>!(u.1==v1)).length:Int),(i:Int),usE s,roE s,clE s,usE t,t)=some (.inr (((usE t).length:Int),roE s,clE s,usE t,t)):=by
   intro f
   induction f with
   |zero=>
    intro i hi g hg
    obtain⟨g,rfl⟩:∃m,g=m+1:=⟨g-1,by omega⟩
    have hi:i=(usE s).length:=by omega
    subst hi
    rw[List.take_length,←hu]
    refine zgH ?_
    simp only
    unfold zbP
    rw[zrW (by omega)]
   |succ f ih=>
    intro i hi g hg
    obtain⟨g,rfl⟩:∃m,g=m+1:=⟨g-1,by omega⟩
    have hlt:i<(usE s).length:=by omega
    have hft:=ypI (p:=fun u:Us=>!(u.1==v1)) hlt
    refine Eq.trans (zhE (s':=(((((usE s).take (i+1)).filter fun u=>!(u.1==v1)).length:Int),((i+1:Nat):Int),usE s,roE s,clE s,usE t,t)) ?_) (ih (i+1) (by omega) g (by omega))
    simp only
    unfold zbP
    rw[zoE (by omega),yyT hlt,zaA,zrA rfl hlt,zaA,hft]
    cases he:(usE s)[i].1==v1 with
    |true=>
     rw[cond_true,if_neg (by simp),Nat.add_zero,zzE (by omega)]
    |false=>
     obtain⟨b1,b2⟩:=yjT (p:=fun u:Us=>!(u.1==v1)) hlt (by rw[he];rfl)
     rw[←hu]at b1 b2
     rw[cond_false,if_pos (by simp),zrW (by omega),yyT b1,zaA,zrA rfl b1,zaA,zaA,zaA]
     rw[List.getElem?_eq_getElem b1]at b2
     rw[osi b2]
     simp only[beq_self_eq_true,decide_true,Bool.and_true,Bool.not_true,cond_false]
     have hle:(((usE s).take i).filter fun u:Us=>!(u.1==v1)).length≤64:=Nat.le_trans (Nat.le_of_lt b1) (by unfold usE;rw[List.length_map];exact it.uL)
     rw[zzE (by omega),zzE (by omega)]
  exact key (usE s).length 0 (by omega) FU (by unfold FU;omega)
 rw[hb3,zaA]
 simp only
 -- roles, clients, the rest
 have hr0:mhas keqS t.2.2.1 v1=false:=hno 2 (by decide)
 have e1:zfX zaB v1 t.1 t.2.1 t.2.2.1 t.2.2.2.1 t.2.2.2.2=some (zR,false,t):=by
  unfold zfX
  rw[zjV,show mget keqS t.2.2.1 v1=none by rw[zeI]at hr0;exact Option.isSome_eq_false_iff.1 hr0 |> Option.isNone_iff_eq_none.1,hr0]
  rfl
 have e2:zfA zaB v1 t.1 t.2.1 t.2.2.1 t.2.2.2.1 t.2.2.2.2=some (zC,false,t):=by
  unfold zfA
  rw[zjV,show mget keqS t.2.2.2.1 v1=none by rw[zeI]at hnoc;exact Option.isSome_eq_false_iff.1 hnoc |> Option.isNone_iff_eq_none.1,hnoc]
  rfl
 rw[e1,zaA]
 simp only
 rw[e2,zaA]
 simp only[beq_self_eq_true,cond_true,Bool.not_false]
 rw[ysI it,zaA]
 simp only
 rw[zoE (by unfold roE;rw[List.length_map,List.length_map];omega),yiC it,zaA]
 simp only
 rw[zoE (by unfold clE;rw[List.length_map,List.length_map];omega),hap,zaA]
 have e3:zcU zaB (117::58::v1) t.1 t.2.1 t.2.2.1 t.2.2.2.1 t.2.2.2.2=some (false,t):=by
  unfold zcU
  rw[xcA,zaA]
  cases hp:prB (117::58::v1) with
  |false=>rfl
  |true=>
   rw[Bool.not_true,cond_false,show idx (117::58::v1) (0:Int)=some 117 from rfl,zaA,show(((117:UInt8).toNat:Int)==((99:UInt8).toNat:Int))=false from rfl,cond_false]
   have e2:subL (117::58::v1) (2:Int)=some v1:=by
    unfold subL
    rw[decide_eq_true (show(0:Int)≤2 by decide),decide_eq_true (show(2:Int)≤((117::58::v1).length:Int) by simp only[List.length_cons];omega)]
    rfl
   rw[e2,zaA]
   have hu0:mhas keqS t.1 v1=false:=hno 0 (by decide)
   rw[zjV,show mget keqS t.1 v1=none by rw[zeI]at hu0;exact Option.isSome_eq_false_iff.1 hu0 |> Option.isNone_iff_eq_none.1]
   rfl
 rw[e3,zaA]
 simp only[Bool.not_false,cond_true]
 rw[in_ok it,zaA]
 have e4:inE t.2.1 v1=[]:=by
  cases hi:inE t.2.1 v1 with
  |nil=>rfl
  |cons x l=>
   have hx:InG t.2.1 v1 x:=yoA.1 (by rw[hi];exact List.mem_cons_self)
   exfalso
   clear hi
   induction hx with
   |dir hg hu=>
    have:=(it.gl _ _ hg 0 (by decide)).2 _ hu
    rw[hno 0 (by decide)]at this;cases this
   |sub _ _ _ ih=>exact ih
 simp only
 rw[e4]
 rfl
end Go.Proofs.YtopanhneegpgcaaGreatDoor.Am
namespace Go.Proofs.YtopanhneegpgcaaGreatDoor
open Go Go.RowKit
section
open Go Go.RowKit Go.ChangeShapes Go.WideShapes Go.ChangeAt
attribute [local irreducible] Value.okWide
theorem tabs_of{W:World}(h:W.ShapedOpen Tryz.prog)(hL:laidMet Tryz.prog Rows.peopleDropsUptoRow.laid W):∃G:List (Nat×Obj),Am.zwC G∧Am.GS G (ztB W):=by
 obtain⟨m,hm⟩:=Tryz.laysM219.s1_3 W h
 have hm:W.cell? ⟨0,0,none⟩=some (.int .i64 m):=hm
 have h0:∃c E fz,W.heap[0]? = some (.cells c E fz)∧c[0]? = some (.int .i64 m):=by
  unfold World.cell? at hm
  split at hm
  ·rename_i c E fz hb
   simp only[Option.isSome_none,if_neg (show ¬(false=true) by decide)]at hm
   exact⟨c,E,fz,hb,hm⟩
  ·cases hm
 obtain⟨c,E,fz,h1,h2⟩:=h0
 have hT := Lib.tabIs_of_head (P := Tryz.prog) (k := .u64) (zs := Lib.pow10Tab) (g := 3) (t := 298) (e := 249) (n := 20) (by kernel_rfl) (by kernel_rfl) (by kernel_rfl) (by kernel_rfl) (by kernel_rfl) (by kernel_rfl) (show laidMet Tryz.prog (("internal/strconv.uint64pow10", Lib.tabData .u64 Lib.pow10Tab) :: _) W from hL.tail.tail)
 have h3:∃T f,W.heap[3]? = some (.cells ywR.toArray T f):=by
  unfold Lib.TabIs World.var? at hT
  rw [show Tryz.prog.globalNamed "internal/strconv.uint64pow10" = some 3 by kernel_rfl, Option.bind_some] at hT
  split at hT
  ·rename_i cs T f hb
   cases hT
   exact⟨T,f,hb⟩
  ·cases hT
 obtain⟨T,f,h4⟩:=h3
 refine⟨[(0,.cells c E fz),(3,.cells ywR.toArray T f)],⟨fun S hS=>⟨⟨c,E,fz,m,hS _ (List.mem_cons_self ..),h2⟩,T,f,hS _ (List.mem_cons_of_mem _ (List.mem_cons_self ..))⟩⟩,fun p hp=>?_⟩
 rcases List.mem_cons.1 hp with rfl|hp
 ·exact h1
 ·rcases List.mem_cons.1 hp with rfl|hp
  ·exact h4
  ·cases hp
theorem zzB(H:Type)(enc:TypeId×Value→H)(W:World)(base:Nat)(args:Array Value)(ds gs:List (DataW H))(before:List MemPlace)
  (hval:∀(j:Nat) t v,Tryz.f9.params[j]? = some t→args[j]? = some v→Value.okWide Tryz.prog W .any base t v)
  (hW:DataW.Whole enc Tryz.prog Tryz.f9.params.toList Rows.peopleDropsSpec.vars false W args.toList ds gs before) (hk:Rows.uptoSmall H (ds++gs)=true) (hsh:W.ShapedOpen Tryz.prog) (hL:laidMet Tryz.prog Rows.peopleDropsUptoRow.laid W):
  Calls Tryz.prog 9 args W fun e W'=>∃v,e = .returned v∧Rows.peopleDropsSpec.post enc Tryz.prog Tryz.f9 false true false false W args v W':=by
 have hW':=hW
 obtain⟨p,q,hA0,hV,rfl,_,_⟩:=hW
 have hA:DataW.TrodAll enc Tryz.prog W 0 (fun _=>true) true Tryz.f9.params.toList args.toList ds p:=hA0
 rw[Tryz.params9]at hA hval
 obtain⟨v0,vs0,d0,ds0,p0,q0,hargs,rfl,rfl,t0,r0⟩:=trodAll_cons hA
 obtain⟨v1,vs1,d1,ds1,p1,q1,rfl,rfl,rfl,t1,r1⟩:=trodAll_cons r0
 obtain⟨rfl,rfl,rfl⟩:=trodAll_nil r1
 obtain rfl:args = #[v0,v1]:=by cases args;simp_all
 obtain⟨rfl,rfl⟩:=trodVars_none hV
 obtain⟨x0,e0,b0⟩:=Am.argD_ok (t:=(.sl Am.opT)) (show Am.argOk Tryz.prog 45 (.sl Am.opT)=true by kernel_rfl) (hval 0 45 v0 rfl rfl) t0
 obtain⟨x1,e1,b1⟩:=Am.argD_ok (t:=.s) (show Am.argOk Tryz.prog 9 .s=true by kernel_rfl) (hval 1 9 v1 rfl rfl) t1
 simp only[List.cons_append,List.nil_append,List.append_nil,Rows.uptoSmall,decide_eq_true_eq,Rows.uptoBulkAll]at hk
 obtain⟨G,hG,hGS⟩:=tabs_of hsh hL
 refine((Am.ydG (tabs:=G) (o:=Am.zaB)).ok (ztB W) W [v0,v1] (x0,x1) true hGS (yuX W) (.cons (Am.rep1_vr e0) (.cons (Am.rep1_vr e1) .nil)) (Am.yuS x0 x1 (by omega))).mono fun e W' ⟨hx,v,he,hr,_⟩=>?_
 have hr:[v]=[Value.bool true]:=hr
 rw[(List.cons.inj hr).1]at he
 subst he
 refine⟨_,rfl,xdS (B:=4) (n:=2) (by kernel_rfl) rfl (by kernel_rfl) (by kernel_rfl) (by kernel_rfl) (by kernel_rfl) (fun ds hds=>?_) hW' hx⟩
 match ds,hds with
 |[x0,x1],_=>exact⟨rfl,rfl,rfl⟩
theorem xcS:ownKnob Tryz.prog.godebug=none:=by kernel_rfl
def yhN:DataW Unit→LV
 |.lit (.int k n)=>[.int k n]
 |.agg l=>go l
 |_=>[]
where go:List (DataW Unit)→LV
 |[]=>[]
 |d::l=>yhN d++go l
def zvB(l:LV):Obj→Obj
 |.cells _ t frozen=>.cells l.toArray t frozen
 |o=>o
noncomputable def yeU(os:Os):World:={ World.holding Tryz.prog os ⟨#[],#[],[]⟩with heap:=(((((((((World.holding Tryz.prog os ⟨#[],#[],[]⟩).heap).modify 6 (zvB (yhN Rows.laid_math_bits_deBruijn32tab))).modify 7 (zvB (yhN Rows.laid_math_bits_deBruijn64tab))).modify 3 (zvB (yhN Rows.laid_internal_strconv_uint64pow10))).modify 5 (zvB (yhN Rows.laid_unicode_utf8_acceptRanges))).modify 2 (zvB [.iface 312 (.pointer (some ⟨(World.holding Tryz.prog os ⟨#[],#[],[]⟩).heap.size+0,0,none⟩))])).modify 1 (zvB [.iface 312 (.pointer (some ⟨(World.holding Tryz.prog os ⟨#[],#[],[]⟩).heap.size+1,0,none⟩))])).modify 4 (zvB (yhN Go.Pinned.utf8First))) ++ #[.cells #[.string ⟨#[118,97,108,117,101,32,111,117,116,32,111,102,32,114,97,110,103,101]⟩] 314,.cells #[.string ⟨#[105,110,118,97,108,105,100,32,115,121,110,116,97,120]⟩] 314] }
theorem zzF(os:Os):laidMet Tryz.prog Rows.peopleDropsUptoRow.laid ((yeU os).forCall (fun _ _=>0) ⟨#[],#[.slice none 0 0,.string ⟨#[]⟩],[]⟩).memory:=
 laidMet_of_run' 8 (by kernel_rfl) (by kernel_rfl)
theorem ybS(os:Os){H:Type}(enc:TypeId×Value→H):∃places,DataW.whole enc Tryz.prog ((yeU os).forCall (fun _ _=>0) ⟨#[],#[.slice none 0 0,.string ⟨#[]⟩],[]⟩).memory Tryz.f9.params.toList Rows.peopleDropsSpec.vars false (#[.slice none 0 0,.string ⟨#[]⟩]:Array Value).toList 8=some ([.nil,.lit (.string [])],[],places):=
 ⟨[],by kernel_rfl⟩
set_option maxRecDepth 100000 in
theorem ybH(os:Os)(started:os.Started)(H:Type)(enc:TypeId×Value→H)(F:Stop.Interp):
  ReturnsInHanded {} Tryz.checked os 9 .any ((Rows.OpenSpec.upto Rows.peopleDropsSpec).preRow enc Tryz.prog Tryz.f9 Rows.peopleDropsUptoRow.domain false Rows.peopleDropsUptoRow.laid) (((Rows.OpenSpec.upto Rows.peopleDropsSpec).at F).post enc Tryz.prog Tryz.f9 false true false false):=by
 obtain⟨places,hx⟩:=ybS os enc
 refine returnsInHanded_of_row (C:=Tryz.checked) (s:=Rows.OpenSpec.upto Rows.peopleDropsSpec) xcS started (by kernel_rfl) Tryz.func9
  (witness_row_at (enc:=enc) (C:=Tryz.checked) false (yeU os) #[.slice none 0 0,.string ⟨#[]⟩] rfl (by kernel_rfl) (by kernel_rfl) (by kernel_rfl)
   (OpenSpec.preRow_of_cond 8 hx (by kernel_rfl) (fun k hk=>by cases hk;kernel_rfl) (by kernel_rfl) (zzF os))) ?_
 intro W base args ds gs before hval hW _ hcond _ hL hsh _
 exact zzB H enc W base args ds gs before hval hW (hcond _ rfl) hsh hL
set_option maxRecDepth 100000 in
set_option maxHeartbeats 40000000 in
theorem ybT:joinedFacts Tryz.pinned.checked.prog 9 Tryz.f9 (Rows.OpenSpec.upto Rows.peopleDropsSpec).bare Rows.peopleDropsUptoRow=true:=by
 simp only[joinedFacts,Bool.and_eq_true]
 repeat' refine And.intro ?_ ?_
 all_goals (as_aux_lemma=>kernel_rfl)
theorem yfQ:Rows.PeopleDropsUptoSaid:=
 OpenClaim.holds_of_cond 9 Tryz.f9 rfl rfl rfl rfl rfl rfl rfl ⟨rfl,rfl,rfl,rfl,rfl⟩ rfl rfl rfl rfl rfl (by kernel_rfl) Tryz.func9 ybT
  (of_decide_eq_true (by kernel_rfl)) (by unfold Func.isWrapper;first|(rw[if_pos (by decide +kernel)];kernel_rfl)|(rw[if_neg (by decide +kernel)];exact⟨rfl,rfl⟩))
  (fun os started H enc _ F=>by rw[OpenClaim.pre_eq_preRow];exact ybH os started H enc F)
theorem ycK (f : FuncId) (fn : Func) (hf : Tryz.pinned.checked.prog.funcNamed "seneschal/seneschallaw12.PeopleDrops" = some f) (hfn : Tryz.pinned.checked.prog.funcs[f]? = some fn) :
  true=Tryz.pinned.checked.prog.looks []∧∀(j:Nat) t,fn.params[j]? = some t→Tryz.pinned.checked.prog.wantsStandIn t=false:=by
 obtain rfl : f = 9 := osi ((show Tryz.prog.funcNamed "seneschal/seneschallaw12.PeopleDrops" = some 9 by kernel_rfl).symm.trans hf) |>.symm
 obtain rfl:fn=Tryz.f9:=(osi (Tryz.func9.symm.trans hfn)).symm
 refine⟨by kernel_rfl,fun j t ht=>?_⟩
 rw[Tryz.params9]at ht
 have hm:t∈[45,9]:=by simpa using Array.mem_of_getElem? ht
 have hall:([45,9].all fun u=>!Tryz.prog.wantsStandIn u)=true:=by kernel_rfl
 exact(show Tryz.prog.wantsStandIn t=false by simpa using List.all_eq_true.1 hall t hm)
theorem peopleDrops_said : Rows.PeopleDropsUptoCardSaid :=
 Claim7.holds_tied_plain_at .later [] _ _ _ _ yfQ (fun _ h=>by cases h) (by as_aux_lemma=>kernel_rfl) (fun _ h=>by cases h) peopleDropsUpto_row_tie rfl ⟨rfl,rfl⟩ (by as_aux_lemma=>kernel_rfl) rfl ycK (by as_aux_lemma=>kernel_rfl)
end
end Go.Proofs.YtopanhneegpgcaaGreatDoor
