/- Parts of one proof. Conditions: as each theorem says. -/
import Derived.Shelf.Strings.Builder1
import Derived.Shelf.Strings.Trim
import Derived.Shelf.Small.Utf8
import Derived.Shelf.Small.Bits
import Derived.Shelf.Small.Strs
import Derived.Shelf.Strings.BuilderF
import Derived.Shelf.Strings.BuilderK
import Derived.Shelf.Strconv.Atoi
import Derived.Shelf.Strconv.Itoa0
import Derived.Shelf.Strconv.Itoa1
import Derived.Shelf.LaysM
import Derived.Shelf.Strconv.Itoa2
import Derived.Shelf.Strconv.Itoa3
import Derived.Shelf.Strconv.AtoiErrFast
import Derived.Shelf.Strconv.ParseIntEmpty
import Derived.Shelf.Strconv.AtoiFail
import Derived.Shelf.Strconv.Clone
import Derived.Shelf.Strconv.SyntaxError
import Derived.Shelf.LaysC
import Derived.Shelf.Strconv.ToError
import Derived.Shelf.Strconv.Lower
import Derived.Shelf.Strconv.ParseUint10
import Derived.Shelf.Strconv.ParseUint10Empty
import Derived.Shelf.Strconv.ParseUint10Any
import Derived.Shelf.Strconv.ParseInt10
import Derived.Shelf.Strconv.AtoiLong
import Derived.Shelf.Strconv.AtoiInnerAll
import Derived.Shelf.Strconv.RangeError
import Derived.Shelf.Strconv.ToErrorRange
import Derived.Shelf.Strconv.AtoiAll
import Derived.Shelf.Strings.Search1
import Derived.Shelf.Strings.Search2
import Derived.Shelf.Strings.Cut
import Derived.Shelf.Strings.Shaped
import Derived.Shelf.Unicode.Decode
import Derived.Shelf.Strings.Runes
import Derived.Shelf.Strings.AsciiSet
import Derived.Shelf.Unicode.DecodeSlow
import Derived.Shelf.Unicode.DecodeAny
import Derived.Shelf.Unicode.DecodeLast
import Derived.Ground.Names2Prog
import Derived.Shelf.Slices.ReverseS
import Derived.Shelf.Slices.Clone
import Derived.Shelf.Slices.CompactS
import Derived.Shelf.Slices.Cells
import Derived.Ground.SlgnProg
import Derived.Shelf.SlicesE.Compact
import Derived.Shelf.SlicesE.Clone
import Derived.Ground.SlgfProg
import Derived.Shelf.SlicesE.IndexFunc
import Derived.Shelf.SlicesE.DeleteFunc
import Derived.Ground.SlgmProg
import Derived.Shelf.SortM.Plain
import Derived.Shelf.SortM.SortNone
import Derived.Test.YtopanhneegpgcaaGreatDoorProg
import Derived.StillTail
import Derived.Below
import Derived.KernelRfl
import Derived.WalkKit
open Array renaming ext_getElem?->fL,getD_eq_getD_getElem?->gJ,getElem?_eq_none->fQ,getElem?_eq_some_iff->aR,getElem?_ofFn->iG,ofFn->iU,range->fC,replicate->eZ
open Bool renaming and_eq_true->aH,eq_iff_iff->dX,false_ne_true->gN,not_eq_false'->iK,or_eq_true->bX
open List renaming all_eq_true->bK,contains_eq_mem->bY,countP_cons->fS,countP_eq_zero->gF,getElem?_cons_succ->bU,length_cons->aS,mem_range->cQ,range->cU,replicate->bC
open Nat renaming add_sub_add_right->iD,blt->cM,le_refl->aK,le_trans->aY,lt_of_lt_of_le->cE,zero_add->aU,zero_le->bS
open Option renaming bind_some->dO
open Go.Proofs.Tryz renaming prog->aB
namespace Go.Proofs
theorem _root_.Go.Proofs.zA{p:Prop}[Decidable p](h:p):decide p=true:=decide_eq_true h
theorem _root_.Go.Proofs.zB{p:Prop}[Decidable p](h:¬p):decide p=false:=decide_eq_false h
theorem _root_.Go.Proofs.zC{p:Prop}[Decidable p](h:decide p=true):p:=of_decide_eq_true h
theorem _root_.Go.Proofs.zD{p:Prop}[Decidable p]:(decide p=true)=p:=decide_eq_true_eq
theorem _root_.Go.Proofs.zE{α:Sort _}(a b:α):cond true a b=a:=rfl
theorem _root_.Go.Proofs.zF{α:Sort _}(a b:α):cond false a b=b:=rfl
theorem _root_.Go.Proofs.zH{c:Prop}{h:Decidable c}(k:¬c){α:Sort _}{t e:α}:ite c t e=e:=if_neg k
theorem _root_.Go.Proofs.zI{c:Prop}{h:Decidable c}(k:c){α:Sort _}{t e:α}:ite c t e=t:=if_pos k
open Go.Shelf
def Tryz.lays160_ren:Go.Shelf.Ren:=⟨fun|160=>164|232=>232|231=>231|227=>233|234=>235|233=>234|236=>237|235=>236|228=>284|271=>287|151=>286|197=>285|120=>320|152=>319|260=>318|137=>334|119=>335|224=>282|225=>281|217=>280|266=>316|n=>n,fun|9=>9|4=>4|3=>3|5=>5|117=>228|116=>227|0=>0|124=>231|21=>21|105=>261|46=>201|119=>307|139=>310|138=>309|n=>n,fun|3=>4|4=>5|n=>n⟩
theorem _root_.Go.Proofs.kqz{α:Type}{o:Option α}{a b:α}(h:o=some a)(e:a=b):o=some b:=h.trans (congrArg some e)
theorem Tryz.lays160:Go.Proofs.Lays.n160 aB Tryz.lays160_ren:={mixed:=by kernel_rfl,f119:=kqz Tryz.func335 (by kernel_rfl),f120:=kqz Tryz.func320 (by kernel_rfl),f137:=kqz Tryz.func334 (by kernel_rfl),f151:=kqz Tryz.func286 (by kernel_rfl),f152:=kqz Tryz.func319 (by kernel_rfl),f160:=kqz Tryz.func164 (by kernel_rfl),f197:=kqz Tryz.func285 (by kernel_rfl),f217:=kqz Tryz.func280 (by kernel_rfl),f224:=kqz Tryz.func282 (by kernel_rfl),f225:=kqz Tryz.func281 (by kernel_rfl),f227:=kqz Tryz.func233 (by kernel_rfl),f228:=kqz Tryz.func284 (by kernel_rfl),f231:=kqz Tryz.func231 (by kernel_rfl),f232:=kqz Tryz.func232 (by kernel_rfl),f233:=kqz Tryz.func234 (by kernel_rfl),f234:=kqz Tryz.func235 (by kernel_rfl),f235:=kqz Tryz.func236 (by kernel_rfl),f236:=kqz Tryz.func237 (by kernel_rfl),f260:=kqz Tryz.func318 (by kernel_rfl),f266:=kqz Tryz.func316 (by kernel_rfl),f271:=kqz Tryz.func287 (by kernel_rfl),t0:=Tryz.underlying0,a0:=Tryz.isAgg0,z0:=Tryz.sizeOf0,v0:=Tryz.zeroValue0,t3:=Tryz.underlying3,a3:=Tryz.isAgg3,z3:=Tryz.sizeOf3,v3:=Tryz.zeroValue3,t4:=Tryz.underlying4,a4:=Tryz.isAgg4,z4:=Tryz.sizeOf4,v4:=Tryz.zeroValue4,t5:=Tryz.underlying5,a5:=Tryz.isAgg5,z5:=Tryz.sizeOf5,v5:=Tryz.zeroValue5,t9:=Tryz.underlying9,a9:=Tryz.isAgg9,z9:=Tryz.sizeOf9,v9:=Tryz.zeroValue9,t21:=Tryz.underlying21,a21:=Tryz.isAgg21,z21:=Tryz.sizeOf21,v21:=Tryz.zeroValue21,t46:=Tryz.underlying201,a46:=Tryz.isAgg201,z46:=Tryz.sizeOf201,v46:=Tryz.zeroValue201,t105:=Tryz.underlying261,a105:=Tryz.isAgg261,z105:=Tryz.sizeOf261,v105:=Tryz.zeroValue261,t116:=Tryz.underlying227,a116:=Tryz.isAgg227,z116:=Tryz.sizeOf227,t117:=Tryz.underlying228,a117:=Tryz.isAgg228,z117:=Tryz.sizeOf228,v117:=Tryz.zeroValue228,t119:=Tryz.underlying307,a119:=Tryz.isAgg307,z119:=Tryz.sizeOf307,t124:=Tryz.underlying231,a124:=Tryz.isAgg231,z124:=Tryz.sizeOf231,v124:=Tryz.zeroValue231,t138:=Tryz.underlying309,a138:=Tryz.isAgg309,z138:=Tryz.sizeOf309,v138:=Tryz.zeroValue309,t139:=Tryz.underlying310,a139:=Tryz.isAgg310,z139:=Tryz.sizeOf310,v139:=Tryz.zeroValue310,g3:=by kernel_rfl,g4:=by kernel_rfl }
def Tryz.lays106_ren:Go.Shelf.Ren:=⟨fun|106=>90|213=>190|265=>259|n=>n,fun|9=>9|3=>3|n=>n,fun|n=>n⟩
theorem Tryz.lays106:Go.Proofs.Lays.n106 aB Tryz.lays106_ren:={mixed:=by kernel_rfl,f106:=kqz Tryz.func90 (by kernel_rfl),f213:=kqz Tryz.func190 (by kernel_rfl),f265:=kqz Tryz.func259 (by kernel_rfl),t3:=Tryz.underlying3,a3:=Tryz.isAgg3,z3:=Tryz.sizeOf3,v3:=Tryz.zeroValue3,t9:=Tryz.underlying9,a9:=Tryz.isAgg9,z9:=Tryz.sizeOf9,v9:=Tryz.zeroValue9 }
open Go.RowKit in
theorem Tryz.strings_Compare(a b:ByteArray)(w:World):Calls aB 90 #[.string a,.string b] w fun e w'=>e = .returned (.int .i64 (Lib.compareBytes a.data.toList b.data.toList))/\w'=w:=Any.strings_Compare Tryz.lays106 a b w
def Tryz.laysM171_ren:Go.Shelf.Ren:=⟨fun|171=>68|243=>168|246=>242|283=>293|284=>294|285=>295|286=>296|129=>258|317=>324|318=>325|319=>326|320=>327|337=>338|338=>339|n=>n,fun|3=>3|9=>9|2=>2|4=>4|171=>270|0=>0|53=>249|37=>102|5=>5|173=>272|212=>298|51=>247|20=>20|213=>299|46=>201|232=>316|233=>317|n=>n,fun|17=>3|18=>6|19=>7|n=>n⟩
theorem Tryz.laysM171:Go.Proofs.LaysM.n171 aB Tryz.laysM171_ren:={mixed:=by kernel_rfl,f129:=kqz Tryz.func258 (by kernel_rfl),f171:=kqz Tryz.func68 (by kernel_rfl),f243:=kqz Tryz.func168 (by kernel_rfl),f246:=kqz Tryz.func242 (by kernel_rfl),f283:=kqz Tryz.func293 (by kernel_rfl),f284:=kqz Tryz.func294 (by kernel_rfl),f285:=kqz Tryz.func295 (by kernel_rfl),f286:=kqz Tryz.func296 (by kernel_rfl),f317:=kqz Tryz.func324 (by kernel_rfl),f318:=kqz Tryz.func325 (by kernel_rfl),f319:=kqz Tryz.func326 (by kernel_rfl),f320:=kqz Tryz.func327 (by kernel_rfl),f337:=kqz Tryz.func338 (by kernel_rfl),f338:=kqz Tryz.func339 (by kernel_rfl),t0:=Tryz.underlying0,a0:=Tryz.isAgg0,z0:=Tryz.sizeOf0,v0:=Tryz.zeroValue0,t2:=Tryz.underlying2,a2:=Tryz.isAgg2,z2:=Tryz.sizeOf2,v2:=Tryz.zeroValue2,t3:=Tryz.underlying3,a3:=Tryz.isAgg3,z3:=Tryz.sizeOf3,v3:=Tryz.zeroValue3,t4:=Tryz.underlying4,a4:=Tryz.isAgg4,z4:=Tryz.sizeOf4,v4:=Tryz.zeroValue4,t5:=Tryz.underlying5,a5:=Tryz.isAgg5,z5:=Tryz.sizeOf5,v5:=Tryz.zeroValue5,t9:=Tryz.underlying9,a9:=Tryz.isAgg9,z9:=Tryz.sizeOf9,v9:=Tryz.zeroValue9,t20:=Tryz.underlying20,a20:=Tryz.isAgg20,z20:=Tryz.sizeOf20,v20:=Tryz.zeroValue20,t37:=Tryz.underlying102,a37:=Tryz.isAgg102,z37:=Tryz.sizeOf102,v37:=Tryz.zeroValue102,t46:=Tryz.underlying201,a46:=Tryz.isAgg201,z46:=Tryz.sizeOf201,v46:=Tryz.zeroValue201,t51:=Tryz.underlying247,a51:=Tryz.isAgg247,z51:=Tryz.sizeOf247,v51:=Tryz.zeroValue247,t53:=Tryz.underlying249,a53:=Tryz.isAgg249,z53:=Tryz.sizeOf249,v53:=Tryz.zeroValue249,t171:=Tryz.underlying270,a171:=Tryz.isAgg270,z171:=Tryz.sizeOf270,v171:=Tryz.zeroValue270,t173:=Tryz.underlying272,a173:=Tryz.isAgg272,z173:=Tryz.sizeOf272,v173:=Tryz.zeroValue272,t212:=Tryz.underlying298,a212:=Tryz.isAgg298,z212:=Tryz.sizeOf298,v212:=Tryz.zeroValue298,t213:=Tryz.underlying299,a213:=Tryz.isAgg299,z213:=Tryz.sizeOf299,t232:=Tryz.underlying316,a232:=Tryz.isAgg316,z232:=Tryz.sizeOf316,v232:=Tryz.zeroValue316,t233:=Tryz.underlying317,a233:=Tryz.isAgg317,z233:=Tryz.sizeOf317,v233:=Tryz.zeroValue317,g17:=by kernel_rfl,g18:=by kernel_rfl,g19:=by kernel_rfl,i0:=by kernel_rfl,i2:=by kernel_rfl,i3:=by kernel_rfl,i4:=by kernel_rfl,i5:=by kernel_rfl,i9:=by kernel_rfl,i20:=by kernel_rfl,i37:=by kernel_rfl,i46:=by kernel_rfl,i51:=by kernel_rfl,i53:=by kernel_rfl,i171:=by kernel_rfl,i173:=by kernel_rfl,i212:=by kernel_rfl,i232:=by kernel_rfl,i233:=by kernel_rfl,m17:=by kernel_rfl,m18:=by kernel_rfl,m19:=by kernel_rfl }
open Go.RowKit Go.Sort Go.Lib in
theorem Tryz.strconv_Itoa (n : Int) (h0 : -9223372036854775808 <= n) (h1 : n <= 9223372036854775807) (w : World) (htab : Lib.TabIs aB w "internal/strconv.uint64pow10" .u64 Lib.pow10Tab) :Calls aB 68 #[.int .i64 n] w fun e w'=>e = .returned (.string ⟨(Lib.itoa n).toArray⟩)/\∃k os,w'=grow (w.drewN k) os:=Any.strconv_Itoa Tryz.laysM171 n h0 h1 w htab
def Tryz.laysC172_ren:Go.Shelf.Ren:=⟨fun|172=>165|244=>238|245=>239|247=>288|279=>289|280=>290|281=>291|282=>292|287=>321|316=>322|171=>68|205=>323|321=>336|322=>337|243=>168|246=>242|283=>293|284=>294|285=>295|286=>296|129=>258|317=>324|318=>325|319=>326|320=>327|337=>338|338=>339|n=>n,fun|9=>9|3=>3|75=>106|76=>107|4=>4|5=>5|167=>264|37=>102|0=>0|85=>265|2=>2|168=>267|53=>249|175=>291|46=>201|210=>295|127=>179|145=>314|143=>312|21=>21|171=>270|173=>272|212=>298|51=>247|20=>20|213=>299|232=>316|233=>317|80=>110|n=>n,fun|15=>1|16=>2|17=>3|18=>6|19=>7|n=>n⟩
theorem Tryz.laysC172:Go.Proofs.LaysC.n172 aB Tryz.laysC172_ren:={mixed:=by kernel_rfl,f129:=kqz Tryz.func258 (by kernel_rfl),f171:=kqz Tryz.func68 (by kernel_rfl),f172:=kqz Tryz.func165 (by kernel_rfl),f205:=kqz Tryz.func323 (by kernel_rfl),f243:=kqz Tryz.func168 (by kernel_rfl),f244:=kqz Tryz.func238 (by kernel_rfl),f245:=kqz Tryz.func239 (by kernel_rfl),f246:=kqz Tryz.func242 (by kernel_rfl),f247:=kqz Tryz.func288 (by kernel_rfl),f279:=kqz Tryz.func289 (by kernel_rfl),f280:=kqz Tryz.func290 (by kernel_rfl),f281:=kqz Tryz.func291 (by kernel_rfl),f282:=kqz Tryz.func292 (by kernel_rfl),f283:=kqz Tryz.func293 (by kernel_rfl),f284:=kqz Tryz.func294 (by kernel_rfl),f285:=kqz Tryz.func295 (by kernel_rfl),f286:=kqz Tryz.func296 (by kernel_rfl),f287:=kqz Tryz.func321 (by kernel_rfl),f316:=kqz Tryz.func322 (by kernel_rfl),f317:=kqz Tryz.func324 (by kernel_rfl),f318:=kqz Tryz.func325 (by kernel_rfl),f319:=kqz Tryz.func326 (by kernel_rfl),f320:=kqz Tryz.func327 (by kernel_rfl),f321:=kqz Tryz.func336 (by kernel_rfl),f322:=kqz Tryz.func337 (by kernel_rfl),f337:=kqz Tryz.func338 (by kernel_rfl),f338:=kqz Tryz.func339 (by kernel_rfl),t0:=Tryz.underlying0,a0:=Tryz.isAgg0,z0:=Tryz.sizeOf0,v0:=Tryz.zeroValue0,t2:=Tryz.underlying2,a2:=Tryz.isAgg2,z2:=Tryz.sizeOf2,v2:=Tryz.zeroValue2,t3:=Tryz.underlying3,a3:=Tryz.isAgg3,z3:=Tryz.sizeOf3,v3:=Tryz.zeroValue3,t4:=Tryz.underlying4,a4:=Tryz.isAgg4,z4:=Tryz.sizeOf4,v4:=Tryz.zeroValue4,t5:=Tryz.underlying5,a5:=Tryz.isAgg5,z5:=Tryz.sizeOf5,v5:=Tryz.zeroValue5,t9:=Tryz.underlying9,a9:=Tryz.isAgg9,z9:=Tryz.sizeOf9,v9:=Tryz.zeroValue9,t20:=Tryz.underlying20,a20:=Tryz.isAgg20,z20:=Tryz.sizeOf20,v20:=Tryz.zeroValue20,t21:=Tryz.underlying21,a21:=Tryz.isAgg21,z21:=Tryz.sizeOf21,v21:=Tryz.zeroValue21,t37:=Tryz.underlying102,a37:=Tryz.isAgg102,z37:=Tryz.sizeOf102,v37:=Tryz.zeroValue102,t46:=Tryz.underlying201,a46:=Tryz.isAgg201,z46:=Tryz.sizeOf201,v46:=Tryz.zeroValue201,t51:=Tryz.underlying247,a51:=Tryz.isAgg247,z51:=Tryz.sizeOf247,v51:=Tryz.zeroValue247,t53:=Tryz.underlying249,a53:=Tryz.isAgg249,z53:=Tryz.sizeOf249,v53:=Tryz.zeroValue249,t75:=Tryz.underlying106,a75:=Tryz.isAgg106,z75:=Tryz.sizeOf106,v75:=Tryz.zeroValue106,t76:=Tryz.underlying107,a76:=Tryz.isAgg107,z76:=Tryz.sizeOf107,v76:=Tryz.zeroValue107,t85:=Tryz.underlying265,a85:=Tryz.isAgg265,z85:=Tryz.sizeOf265,v85:=Tryz.zeroValue265,t127:=Tryz.underlying179,a127:=Tryz.isAgg179,z127:=Tryz.sizeOf179,v127:=Tryz.zeroValue179,t143:=Tryz.underlying312,a143:=Tryz.isAgg312,z143:=Tryz.sizeOf312,v143:=Tryz.zeroValue312,t145:=Tryz.underlying314,a145:=Tryz.isAgg314,z145:=Tryz.sizeOf314,v145:=Tryz.zeroValue314,t167:=Tryz.underlying264,a167:=Tryz.isAgg264,z167:=Tryz.sizeOf264,v167:=Tryz.zeroValue264,t168:=Tryz.underlying267,a168:=Tryz.isAgg267,z168:=Tryz.sizeOf267,v168:=Tryz.zeroValue267,t171:=Tryz.underlying270,a171:=Tryz.isAgg270,z171:=Tryz.sizeOf270,v171:=Tryz.zeroValue270,t173:=Tryz.underlying272,a173:=Tryz.isAgg272,z173:=Tryz.sizeOf272,v173:=Tryz.zeroValue272,t175:=Tryz.underlying291,a175:=Tryz.isAgg291,z175:=Tryz.sizeOf291,v175:=Tryz.zeroValue291,t210:=Tryz.underlying295,a210:=Tryz.isAgg295,z210:=Tryz.sizeOf295,v210:=Tryz.zeroValue295,t212:=Tryz.underlying298,a212:=Tryz.isAgg298,z212:=Tryz.sizeOf298,v212:=Tryz.zeroValue298,t213:=Tryz.underlying299,a213:=Tryz.isAgg299,z213:=Tryz.sizeOf299,t232:=Tryz.underlying316,a232:=Tryz.isAgg316,z232:=Tryz.sizeOf316,v232:=Tryz.zeroValue316,t233:=Tryz.underlying317,a233:=Tryz.isAgg317,z233:=Tryz.sizeOf317,v233:=Tryz.zeroValue317,g15:=by kernel_rfl,g16:=by kernel_rfl,g17:=by kernel_rfl,g18:=by kernel_rfl,g19:=by kernel_rfl,t80:=Tryz.underlying110,a80:=Tryz.isAgg110,z80:=Tryz.sizeOf110,v80:=Tryz.zeroValue110,i0:=by kernel_rfl,i2:=by kernel_rfl,i3:=by kernel_rfl,i4:=by kernel_rfl,i5:=by kernel_rfl,i9:=by kernel_rfl,i20:=by kernel_rfl,i21:=by kernel_rfl,i37:=by kernel_rfl,i46:=by kernel_rfl,i51:=by kernel_rfl,i53:=by kernel_rfl,i75:=by kernel_rfl,i76:=by kernel_rfl,i80:=by kernel_rfl,i85:=by kernel_rfl,i127:=by kernel_rfl,i143:=by kernel_rfl,i145:=by kernel_rfl,i167:=by kernel_rfl,i168:=by kernel_rfl,i171:=by kernel_rfl,i173:=by kernel_rfl,i175:=by kernel_rfl,i210:=by kernel_rfl,i212:=by kernel_rfl,i232:=by kernel_rfl,i233:=by kernel_rfl,m15:=by kernel_rfl,m16:=by kernel_rfl,m17:=by kernel_rfl,m18:=by kernel_rfl,m19:=by kernel_rfl,c0:=by kernel_rfl,c2:=by kernel_rfl,c3:=by kernel_rfl,c4:=by kernel_rfl,c5:=by kernel_rfl,c9:=by kernel_rfl,c20:=by kernel_rfl,c21:=by kernel_rfl,c37:=by kernel_rfl,c46:=by kernel_rfl,c51:=by kernel_rfl,c53:=by kernel_rfl,c75:=by kernel_rfl,c76:=by kernel_rfl,c80:=by kernel_rfl,c85:=by kernel_rfl,c127:=by kernel_rfl,c143:=by kernel_rfl,c145:=by kernel_rfl,c167:=by kernel_rfl,c168:=by kernel_rfl,c171:=by kernel_rfl,c173:=by kernel_rfl,c175:=by kernel_rfl,c210:=by kernel_rfl,c212:=by kernel_rfl,c213:=by kernel_rfl,c232:=by kernel_rfl,c233:=by kernel_rfl }
open Go.RowKit in
theorem Tryz.strconv_Atoi_ok(s:ByteArray)(hmax:s.size<=9223372036854775806)(v:Int)(h:Lib.atoiAll s.data.toList = .ok v)(w:World):Calls aB 165 #[.string s] w fun e w'=>e = .returned (.tuple #[.int .i64 v,.nilIface])/\(w'=w∨∃t,w'=Lib.bytesWorld w 5 t):=Any.strconv_Atoi_ok Tryz.laysC172 s hmax v h w
def Tryz.lays145_ren:Go.Shelf.Ren:=⟨fun|145=>59|220=>163|219=>230|217=>280|225=>281|224=>282|267=>283|266=>316|314=>317|n=>n,fun|9=>9|4=>4|59=>92|3=>3|5=>5|46=>201|146=>288|51=>247|n=>n,fun|1=>0|n=>n⟩
theorem Tryz.lays145:Go.Proofs.Lays.n145 aB Tryz.lays145_ren:={mixed:=by kernel_rfl,f145:=kqz Tryz.func59 (by kernel_rfl),f217:=kqz Tryz.func280 (by kernel_rfl),f219:=kqz Tryz.func230 (by kernel_rfl),f220:=kqz Tryz.func163 (by kernel_rfl),f224:=kqz Tryz.func282 (by kernel_rfl),f225:=kqz Tryz.func281 (by kernel_rfl),f266:=kqz Tryz.func316 (by kernel_rfl),f267:=kqz Tryz.func283 (by kernel_rfl),f314:=kqz Tryz.func317 (by kernel_rfl),t3:=Tryz.underlying3,a3:=Tryz.isAgg3,z3:=Tryz.sizeOf3,v3:=Tryz.zeroValue3,t4:=Tryz.underlying4,a4:=Tryz.isAgg4,z4:=Tryz.sizeOf4,v4:=Tryz.zeroValue4,t5:=Tryz.underlying5,a5:=Tryz.isAgg5,z5:=Tryz.sizeOf5,v5:=Tryz.zeroValue5,t9:=Tryz.underlying9,a9:=Tryz.isAgg9,z9:=Tryz.sizeOf9,v9:=Tryz.zeroValue9,t46:=Tryz.underlying201,a46:=Tryz.isAgg201,z46:=Tryz.sizeOf201,v46:=Tryz.zeroValue201,t51:=Tryz.underlying247,a51:=Tryz.isAgg247,z51:=Tryz.sizeOf247,v51:=Tryz.zeroValue247,t59:=Tryz.underlying92,a59:=Tryz.isAgg92,z59:=Tryz.sizeOf92,v59:=Tryz.zeroValue92,t146:=Tryz.underlying288,a146:=Tryz.isAgg288,z146:=Tryz.sizeOf288,v146:=Tryz.zeroValue288,g1:=by kernel_rfl }
open Go.RowKit Go.Lib in
theorem Tryz.strings_Cut(s sep:ByteArray)(m:Int)(w:World)(hs:s.size<4294967281)(hm:w.cell? ⟨0,0,none⟩=some (.int .i64 m)):Calls aB 59 #[.string s,.string sep] w fun e w'=>e = .returned (.tuple #[.string ⟨(Lib.cut s.data.toList sep.data.toList).1.toArray⟩,.string ⟨(Lib.cut s.data.toList sep.data.toList).2.1.toArray⟩,.bool (Lib.cut s.data.toList sep.data.toList).2.2])/\∃n,w'=w.drewN n:=Any.strings_Cut Tryz.lays145 s sep m w hs hm
def Tryz.laysM219_ren:Go.Shelf.Ren:=⟨fun|219=>230|217=>280|225=>281|224=>282|267=>283|266=>316|314=>317|n=>n,fun|9=>9|3=>3|4=>4|5=>5|46=>201|146=>288|51=>247|n=>n,fun|1=>0|n=>n⟩
theorem Tryz.laysM219:Go.Proofs.LaysM.n219 aB Tryz.laysM219_ren:={mixed:=by kernel_rfl,f217:=kqz Tryz.func280 (by kernel_rfl),f219:=kqz Tryz.func230 (by kernel_rfl),f224:=kqz Tryz.func282 (by kernel_rfl),f225:=kqz Tryz.func281 (by kernel_rfl),f266:=kqz Tryz.func316 (by kernel_rfl),f267:=kqz Tryz.func283 (by kernel_rfl),f314:=kqz Tryz.func317 (by kernel_rfl),t3:=Tryz.underlying3,a3:=Tryz.isAgg3,z3:=Tryz.sizeOf3,v3:=Tryz.zeroValue3,t4:=Tryz.underlying4,a4:=Tryz.isAgg4,z4:=Tryz.sizeOf4,v4:=Tryz.zeroValue4,t5:=Tryz.underlying5,a5:=Tryz.isAgg5,z5:=Tryz.sizeOf5,v5:=Tryz.zeroValue5,t9:=Tryz.underlying9,a9:=Tryz.isAgg9,z9:=Tryz.sizeOf9,v9:=Tryz.zeroValue9,t46:=Tryz.underlying201,a46:=Tryz.isAgg201,z46:=Tryz.sizeOf201,v46:=Tryz.zeroValue201,t51:=Tryz.underlying247,a51:=Tryz.isAgg247,z51:=Tryz.sizeOf247,v51:=Tryz.zeroValue247,t146:=Tryz.underlying288,a146:=Tryz.isAgg288,z146:=Tryz.sizeOf288,v146:=Tryz.zeroValue288,g1:=by kernel_rfl,i3:=by kernel_rfl,i4:=by kernel_rfl,i5:=by kernel_rfl,i9:=by kernel_rfl,i46:=by kernel_rfl,i51:=by kernel_rfl,i146:=by kernel_rfl,m1:=by kernel_rfl,s1_3:=fun w h=>Go.Proofs.cell_of_shapedOpen_int (zero:=#[.int .i64 0]) (t:=3) h (zC (by kernel_rfl)) (by kernel_rfl) rfl (by kernel_rfl) (by kernel_rfl) Tryz.underlying3 }
def Tryz.lays194_ren:Go.Shelf.Ren:=⟨fun|194=>103|n=>n,fun|31=>22|9=>9|3=>3|4=>4|0=>0|n=>n,fun|n=>n⟩
theorem Tryz.lays194:Go.Proofs.Lays.n194 aB Tryz.lays194_ren:={mixed:=by kernel_rfl,f194:=kqz Tryz.func103 (by kernel_rfl),t0:=Tryz.underlying0,a0:=Tryz.isAgg0,z0:=Tryz.sizeOf0,v0:=Tryz.zeroValue0,t3:=Tryz.underlying3,a3:=Tryz.isAgg3,z3:=Tryz.sizeOf3,v3:=Tryz.zeroValue3,t4:=Tryz.underlying4,a4:=Tryz.isAgg4,z4:=Tryz.sizeOf4,v4:=Tryz.zeroValue4,t9:=Tryz.underlying9,a9:=Tryz.isAgg9,z9:=Tryz.sizeOf9,v9:=Tryz.zeroValue9,t31:=Tryz.underlying22,a31:=Tryz.isAgg22,z31:=Tryz.sizeOf22,v31:=Tryz.zeroValue22 }
open Go.RowKit Go.Lib Go.Sort in
theorem Tryz.slices_Compact_string(blk off cap:Nat)(zs:List (List UInt8))(w:World)(hH:Holds encStr w blk off zs.toArray)(hsz:zs.length<=9223372036854775807)(hcap:zs.length<=cap):Calls aB 103 #[.slice (some ⟨blk,off,none⟩) zs.length cap] w fun e w'=>e = .returned (.slice (some ⟨blk,off,none⟩) (Lib.compact zs).length cap)/\∃q,w'=putRow encStr (Sort.ahead w q) blk off (Lib.compact zs++bC (zs.length-(Lib.compact zs).length) []).toArray:=Any.slices_Compact_string Tryz.lays194 blk off cap zs w hH hsz hcap
open Go.RowKit Go.Lib Go.Sort in
theorem Tryz.slices_Compact_string_empty(a:Option Addr)(cap:Nat)(w:World):Calls aB 103 #[.slice a 0 cap] w fun e w'=>e = .returned (.slice a 0 cap)/\w'=w:=Any.slices_Compact_string_empty Tryz.lays194 a cap w
def Tryz.laysSlH6_f212_ren:Go.Shelf.Ren:=⟨fun|6=>212|n=>n,fun|22=>22|23=>9|25=>25|3=>3|0=>0|4=>4|n=>n,fun|n=>n⟩
theorem Tryz.laysSlH6_f212:Go.Proofs.SlLaysH.n6 aB Tryz.laysSlH6_f212_ren:={mixed:=by kernel_rfl,f6:=⟨Tryz.f212.name,by decide,kqz Tryz.func212 (by kernel_rfl)⟩,t0:=Tryz.underlying0,a0:=Tryz.isAgg0,z0:=Tryz.sizeOf0,v0:=Tryz.zeroValue0,t3:=Tryz.underlying3,a3:=Tryz.isAgg3,z3:=Tryz.sizeOf3,v3:=Tryz.zeroValue3,t4:=Tryz.underlying4,a4:=Tryz.isAgg4,z4:=Tryz.sizeOf4,v4:=Tryz.zeroValue4,t22:=Tryz.underlying22,a22:=Tryz.isAgg22,z22:=Tryz.sizeOf22,v22:=Tryz.zeroValue22,a23:=Tryz.isAgg9,z23:=Tryz.sizeOf9,t25:=Tryz.underlying25,a25:=Tryz.isAgg25,z25:=Tryz.sizeOf25,v25:=Tryz.zeroValue25 }
open Go.RowKit Go.Lib in
theorem Tryz.slices_IndexFunc_empty{α:Type}[Inhabited α](a:Option Addr)(c:Nat)(fv:Value)(w:World):Calls aB 212 #[.slice a 0 c,fv] w fun e w'=>e = .returned (.int .i64 (-1))/\w'=w:=AnyE.slices_IndexFunc_empty Tryz.laysSlH6_f212 a c fv w
def Tryz.laysSlH10_f274_ren:Go.Shelf.Ren:=⟨fun|10=>274|6=>212|n=>n,fun|22=>22|23=>9|25=>25|3=>3|4=>4|0=>0|n=>n,fun|n=>n⟩
theorem Tryz.laysSlH10_f274:Go.Proofs.SlLaysH.n10 aB Tryz.laysSlH10_f274_ren:={mixed:=by kernel_rfl,f6:=⟨Tryz.f212.name,by decide,kqz Tryz.func212 (by kernel_rfl)⟩,f10:=⟨Tryz.f274.name,by decide,kqz Tryz.func274 (by kernel_rfl)⟩,t0:=Tryz.underlying0,a0:=Tryz.isAgg0,z0:=Tryz.sizeOf0,v0:=Tryz.zeroValue0,t3:=Tryz.underlying3,a3:=Tryz.isAgg3,z3:=Tryz.sizeOf3,v3:=Tryz.zeroValue3,t4:=Tryz.underlying4,a4:=Tryz.isAgg4,z4:=Tryz.sizeOf4,v4:=Tryz.zeroValue4,t22:=Tryz.underlying22,a22:=Tryz.isAgg22,z22:=Tryz.sizeOf22,v22:=Tryz.zeroValue22,a23:=Tryz.isAgg9,z23:=Tryz.sizeOf9,t25:=Tryz.underlying25,a25:=Tryz.isAgg25,z25:=Tryz.sizeOf25,v25:=Tryz.zeroValue25 }
open Go.RowKit Go.Lib Go.Sort in
theorem Tryz.slices_DeleteFunc{α:Type}[Inhabited α](enc:α->Value)(hO:OneCell enc)(p:α->Bool)(g:Nat)(lb:Array Value)(eg:∀args w,(callFunc g args).run aB w = .ok (.enter g args) w)(zr:α)(v23:∀w,(zeroValue 9).run aB w = .ok (enc zr) w)(blk off cap:Nat)(d:Array α)(w:World)(hp:PredAt aB g lb enc p w)(hpo:PredOver aB g lb enc p blk off d.size w)(hH:Holds enc w blk off d)(hsz:d.size<=9223372036854775807)(hcap:d.size<=cap):Calls aB 274 #[.slice (some ⟨blk,off,none⟩) d.size cap,.func (.func g) #[] lb] w fun e w'=>e = .returned (.slice (some ⟨blk,off,none⟩) (d.toList.filter fun x=>!p x).length cap)/\∃q,w'=putRow enc (Sort.ahead w q) blk off ((d.toList.filter fun x=>!p x)++bC (d.size-(d.toList.filter fun x=>!p x).length) zr).toArray:=AnyE.slices_DeleteFunc Tryz.laysSlH10_f274 enc hO p g lb eg zr v23 blk off cap d w hp hpo hH hsz hcap
def Tryz.laysSlM6_f102_ren:Go.Shelf.Ren:=⟨fun|6=>102|8=>189|9=>202|19=>257|20=>258|21=>262|22=>263|23=>264|24=>265|25=>266|26=>267|27=>268|28=>269|29=>270|36=>304|31=>298|32=>299|37=>305|38=>306|39=>307|41=>330|n=>n,fun|27=>22|29=>9|3=>3|32=>201|26=>22|0=>0|44=>247|46=>249|4=>4|36=>241|35=>240|41=>94|5=>5|9=>9|53=>274|57=>278|63=>301|64=>302|n=>n,fun|n=>n⟩
theorem Tryz.laysSlM6_f102:Go.Proofs.SlLaysM.n6 aB Tryz.laysSlM6_f102_ren:={mixed:=by kernel_rfl,f6:=⟨Tryz.f102.name,by decide,kqz Tryz.func102 (by kernel_rfl)⟩,f8:=kqz Tryz.func189 (by kernel_rfl),f9:=⟨Tryz.f202.name,by decide,kqz Tryz.func202 (by kernel_rfl)⟩,f19:=kqz Tryz.func257 (by kernel_rfl),f20:=kqz Tryz.func258 (by kernel_rfl),f21:=⟨Tryz.f262.name,by decide,kqz Tryz.func262 (by kernel_rfl)⟩,f22:=⟨Tryz.f263.name,by decide,kqz Tryz.func263 (by kernel_rfl)⟩,f23:=⟨Tryz.f264.name,by decide,kqz Tryz.func264 (by kernel_rfl)⟩,f24:=⟨Tryz.f265.name,by decide,kqz Tryz.func265 (by kernel_rfl)⟩,f25:=⟨Tryz.f266.name,by decide,kqz Tryz.func266 (by kernel_rfl)⟩,f26:=⟨Tryz.f267.name,by decide,kqz Tryz.func267 (by kernel_rfl)⟩,f27:=⟨Tryz.f268.name,by decide,kqz Tryz.func268 (by kernel_rfl)⟩,f28:=⟨Tryz.f269.name,by decide,kqz Tryz.func269 (by kernel_rfl)⟩,f29:=⟨Tryz.f270.name,by decide,kqz Tryz.func270 (by kernel_rfl)⟩,f31:=kqz Tryz.func298 (by kernel_rfl),f32:=kqz Tryz.func299 (by kernel_rfl),f36:=⟨Tryz.f304.name,by decide,kqz Tryz.func304 (by kernel_rfl)⟩,f37:=⟨Tryz.f305.name,by decide,kqz Tryz.func305 (by kernel_rfl)⟩,f38:=⟨Tryz.f306.name,by decide,kqz Tryz.func306 (by kernel_rfl)⟩,f39:=⟨Tryz.f307.name,by decide,kqz Tryz.func307 (by kernel_rfl)⟩,f41:=⟨Tryz.f330.name,by decide,kqz Tryz.func330 (by kernel_rfl)⟩,t0:=Tryz.underlying0,a0:=Tryz.isAgg0,z0:=Tryz.sizeOf0,v0:=Tryz.zeroValue0,t3:=Tryz.underlying3,a3:=Tryz.isAgg3,z3:=Tryz.sizeOf3,v3:=Tryz.zeroValue3,t4:=Tryz.underlying4,a4:=Tryz.isAgg4,z4:=Tryz.sizeOf4,v4:=Tryz.zeroValue4,t5:=Tryz.underlying5,a5:=Tryz.isAgg5,z5:=Tryz.sizeOf5,v5:=Tryz.zeroValue5,t9:=Tryz.underlying9,a9:=Tryz.isAgg9,z9:=Tryz.sizeOf9,v9:=Tryz.zeroValue9,t26:=Tryz.underlying22,a26:=Tryz.isAgg22,z26:=Tryz.sizeOf22,v26:=Tryz.zeroValue22,t27:=Tryz.underlying22,a27:=Tryz.isAgg22,z27:=Tryz.sizeOf22,v27:=Tryz.zeroValue22,t29:=Tryz.underlying9,a29:=Tryz.isAgg9,z29:=Tryz.sizeOf9,v29:=Tryz.zeroValue9,t32:=Tryz.underlying201,a32:=Tryz.isAgg201,z32:=Tryz.sizeOf201,v32:=Tryz.zeroValue201,t35:=Tryz.underlying240,a35:=Tryz.isAgg240,z35:=Tryz.sizeOf240,v35:=Tryz.zeroValue240,t36:=Tryz.underlying241,a36:=Tryz.isAgg241,z36:=Tryz.sizeOf241,v36:=Tryz.zeroValue241,t41:=Tryz.underlying94,a41:=Tryz.isAgg94,z41:=Tryz.sizeOf94,v41:=Tryz.zeroValue94,t44:=Tryz.underlying247,a44:=Tryz.isAgg247,z44:=Tryz.sizeOf247,v44:=Tryz.zeroValue247,t46:=Tryz.underlying249,a46:=Tryz.isAgg249,z46:=Tryz.sizeOf249,v46:=Tryz.zeroValue249,t53:=Tryz.underlying274,a53:=Tryz.isAgg274,z53:=Tryz.sizeOf274,v53:=Tryz.zeroValue274,t57:=Tryz.underlying278,a57:=Tryz.isAgg278,z57:=Tryz.sizeOf278,v57:=Tryz.zeroValue278,t63:=Tryz.underlying301,a63:=Tryz.isAgg301,z63:=Tryz.sizeOf301,v63:=Tryz.zeroValue301,t64:=Tryz.underlying302,a64:=Tryz.isAgg302,z64:=Tryz.sizeOf302,v64:=Tryz.zeroValue302 }
open Go.Sort Go.RowKit in
theorem Tryz.slices_Sort_string(blk off cap:Nat)(ss:List (List UInt8))(w:World)(hH:Holds encStr w blk off ss.toArray)(hblk:blk<w.heap.size)(hsz:ss.length<4611686018427387904):Calls aB 102 #[.slice (some ⟨blk,off,none⟩) ss.length cap] w fun e w'=>
   e = .returned (.tuple #[])/\∃n os,w'=grow (putRow encStr (Sort.ahead w n) blk off (ss.mergeSort fun x y=>decide (x<=y)).toArray) os:=AnyM.slices_Sort_string Tryz.laysSlM6_f102 blk off cap ss w hH hblk hsz
open Go.RowKit Go.Sort in
theorem Tryz.slices_Sort_string_none(p:Option Addr)(cap:Nat)(w:World):Calls aB 102 #[.slice p 0 cap] w fun e w'=>e = .returned (.tuple #[])/\w'=w:=AnyM.slices_Sort_string_none Tryz.laysSlM6_f102 p cap w
end Go.Proofs
namespace Go.Proofs.YtopanhneegpgcaaGreatDoor
open Go Go.RowKit
abbrev Bs:=List UInt8
abbrev LV:=List Value
abbrev _root_.UInt8.I(x:UInt8):Int:=(x.toNat:Int)
abbrev _root_.UInt16.I(x:UInt16):Int:=(x.toNat:Int)
abbrev _root_.UInt32.I(x:UInt32):Int:=(x.toNat:Int)
abbrev _root_.UInt64.I(x:UInt64):Int:=(x.toNat:Int)
section
structure Gv where
 v:Value
 f:Nat->Bool
instance :CoeOut Gv Value:=⟨Gv.v⟩
abbrev zhT:=Nat->Option (Sum Value (Gv->World->Prop))
def Ext(w w':World):Prop:=Below w.heap.size w w'
theorem Ext.refl(w:World):Ext w w:=Below.refl _ _
theorem Ext.trans{a b c:World}(h:Ext a b)(k:Ext b c):Ext a c:=Below.trans h (Below.mono k h.size)
def ziI(Φ:zhT)(vs:Nat->Gv)(w:World)(j:Nat):Prop:=
 match Φ j with
 |some (.inr φ)=>φ (vs j) w|_=>True
def zjQ(Φ:zhT)(vs:Nat->Gv)(w:World):List Nat->Prop
 |[]=>True|j::l=>ziI Φ vs w j/\zjQ Φ vs w l
theorem zvF{Φ:zhT}{vs:Nat->Gv}{w:World}{l:List Nat}:zjQ Φ vs w l↔∀j∈l,ziI Φ vs w j:=by
 induction l with
 |nil=>simp[zjQ]|cons j l ih=>simp[zjQ,ih]
def zfH(o:Oper):List Nat:=(o.after.toList.filter (Region.binds .any)).map (·.on)
theorem zrY{o:Oper}{j:Nat}:j∈zfH o↔∃e∈o.after,Region.binds .any e=true/\e.on=j:=by
 simp only[zfH,List.mem_map,List.mem_filter,Array.mem_toList_iff];constructor
 ·rintro⟨e,⟨h1,h2⟩,h3⟩;exact⟨e,h1,h2,h3⟩
 ·rintro⟨e,h1,h2,h3⟩;exact⟨e,⟨h1,h2⟩,h3⟩
def anc(ops:Array Oper):Nat->List Nat->List Nat
 |0,l=>l|i+1,l=>anc ops i (bif l.contains i then(match ops[i]? with
  |some o=>zfH o++l|none=>l)else l)
def zgT(ops:Array Oper)(n k:Nat):Bool:=
 match ops[n]? with
 |some o=>!(anc ops n (zfH o)).contains k|none=>false
theorem ylW{ops:Array Oper}{p:Nat->Prop}{N:Nat}(hp:∀i o,i<N->p i->ops[i]? = some o->∀j∈zfH o,p j):∀(i:Nat) (l:List Nat),i<=N->(∀j∈l,p j)->∀j∈anc ops i l,p j
 |0,_,_,h=>h|i+1,l,hi',h=>by
  rw[anc];refine ylW hp i _ (by omega) ?_;cases hc:l.contains i with
  |false=>simpa using h|true=>
   have hi:p i:=h i (by simpa using hc);cases ho:ops[i]? with
   |none=>simpa using h|some o=>
    intro j hj;simp only[zE,List.mem_append]at hj;rcases hj with hj|hj
    ·exact hp i o (by omega) hi ho j hj
    ·exact h j hj
def outcome(P:Program)(R:Value->World->Prop):Result Next->Prop
 |.ok (.value v) w'=>R v w'|.ok .skip w'=>R undef w'|.ok (.enter f args) w'=>Calls P f args w' fun e w''=>match e with
  |.returned v=>R v w''|_=>False
 |.ok (.row row args) w'=>Rows P row args w' R|_=>False
section
variable (P:Program)(R:Value->World->Prop)(w:World)
@[go_sem] theorem ymA (v:Value):outcome P R (.ok (.value v) w)=R v w:=rfl
end
theorem yaJ{P:Program}{R:Value->World->Prop}{o:Oper}{a:Act}{w:World}{K:Act->World->Prop}{Q:Exit->Act->World->Prop} (h:outcome P R ((execOp a.eval o).run P w)) (hK:∀v w',R v w'->K (a.put o.dst v) w'):o.wp P a w K Q:=by
 unfold Oper.wp;generalize (execOp a.eval o).run P w=r at *;cases r with
 |ok x w'=>
  cases x<;>simp only[outcome]at h<;>simp only[Oper.upon] <;>
   first
    |exact hK _ _ h
    |exact Calls.mono h (fun e w'' he=>by cases e<;>first|exact hK _ _ he|exact he.elim)|exact Rows.mono h (fun _ _ he=>hK _ _ he)
 |halt x w'=>simp only[outcome]at h
section
variable (P:Program)(ops:Array Oper)(n:Nat)(Φ:zhT)(w0:World)
def xm:Nat:=1000000007
def jx(Φ:zhT)(w:World):Prop:=match Φ xm with
 |some (.inr φ)=>φ ⟨undef,fun _=>false⟩ w|_=>False
def ykN(vs:Nat->Gv)(k:Nat)(o:Oper)(a:Act)(c:Value):Prop:=
 if zgT ops n k then
  (Region.wanted o (yielded ops a.tmps)=true/\∀w,((Φ xm).isSome=true->Ext w0 w∨jx Φ w)->(execOp a.eval o).run P w = .ok (.value c) w) ∨
  (Region.wanted o (yielded ops a.tmps)=false/\c=undef)
 else
 (Region.wanted o (yielded ops a.tmps)=true/\∀w,Ext w0 w->zjQ Φ vs w (zfH o)->(execOp a.eval o).run P w = .ok (.value c) w) ∨
 (Region.wanted o (yielded ops a.tmps)=false/\c=undef)
def Old(w:World)(v:Value):Prop:=∃b o,v = .pointer (some ⟨b,o,none⟩)/\b<w.heap.size
def yjQ(o:Oper):Bool:=match o.op with
 |.alloc _=>true|_=>false
def relK(Φ:zhT)(k:Nat):Bool:=match Φ k with
 |some (.inr _)=>true|_=>false
def made(vs:Nat->Gv)(o:Oper)(w:World)(g:Gv)(w':World):Prop:=∀b,g.f b->b<w'.heap.size/\(w.heap.size<=b∨∃k∈zfH o,relK Φ k=true/\(vs k).f b)
def yiD(vs:Nat->Gv)(o:Oper)(a:Act)(φ:Gv->World->Prop):Prop:=
 if Region.wanted o (yielded ops a.tmps) then
  ∀w,Ext w0 w->zjQ Φ vs w (zfH o)->∀R:Value->World->Prop,(∀g w',Ext w w'->φ g w'->made Φ vs o w g w'->(yjQ o=true->¬Old w g.v)->R g.v w')->outcome P R ((execOp a.eval o).run P w)
 else ∀w,φ ⟨undef,fun _=>false⟩ w
def wpT(vs:Nat->Gv)(Fin:Act->Prop):Nat->List Oper->Act->Prop
 |_,[],a=>Fin a|k,o::rest,a=>
  match Φ k with
  |none=>∃c,ykN P ops n Φ w0 vs k o a c/\wpT vs Fin (k+1) rest (a.put o.dst c)|some (.inl c)=>zgT ops n k=false/\yiD P ops Φ w0 vs o a (fun g _=>g.v=c)/\wpT vs Fin (k+1) rest (a.put o.dst c)|some (.inr φ)=>zgT ops n k=false/\(∀v w w',φ v w->Ext w w'->φ v w')/\(yjQ o=true->∀g w,φ g w->Old w g.v/\∀b,¬g.f b)/\yiD P ops Φ w0 vs o a φ/\wpT vs Fin (k+1) rest (a.put o.dst (vs k).v)
end
def extB(ops:Array Oper)(n:Nat):Bool:=
 Region.noSelect ops&&decide (n<=ops.size) &&
 ((cU n).all fun i=>match ops[i]? with
  |none=>false|some oi=>
   (zfH oi).all (fun j=>decide (j<i)) &&
   ((cU n).all fun j=>match (ops[j]?).bind (·.dst) with
    |none=>true|some d=>(j==i||((ops[i]?).bind (·.dst)) != some d)&&(!(oi.looksAt ops).contains d||(zfH oi).contains j))) &&
 ((cU (ops.size-n)).all fun t=>match ops[n+t]? with
  |none=>false|some o=>t==0||(zfH o).contains (n+t-1)) &&
 ((cU n).all fun i=>!zgT ops n i||Region.free .any ops ((fC ops.size).map fun j=>decide (j<n)&&(!zgT ops n j||decide (j<i))) i) &&
 Region.seqB .any ops (ops.size-n) n ((fC ops.size).map fun j=>decide (j<n))
section
variable {P:Program}{ops:Array Oper}{n:Nat}{Φ:zhT}{w0:World}
structure ExtS (ops:Array Oper) (n:Nat):Prop where
 sel:Region.noSelect ops=true
 le:n<=ops.size
 deps:∀i oi,i<n->ops[i]? = some oi->∀j∈zfH oi,j<i
 dst:∀i j oi oj d,i<n->j<n->ops[i]? = some oi->ops[j]? = some oj->oj.dst=some d->j≠i->oi.dst≠some d
 look:∀i j oi oj d,i<n->j<n->ops[i]? = some oi->ops[j]? = some oj->oj.dst=some d->d∈oi.looksAt ops->j∈zfH oi
 chain:∀t o,n<t->ops[t]? = some o->t-1∈zfH o
 free:∀i,i<n->zgT ops n i=true->Region.free .any ops ((fC ops.size).map fun j=>decide (j<n)&&(!zgT ops n j||decide (j<i))) i=true
 seq:Region.seqB .any ops (ops.size-n) n ((fC ops.size).map fun j=>decide (j<n))=true
theorem extS_of{ops:Array Oper}{n:Nat}(h:extB ops n=true):ExtS ops n:=by
 unfold extB at h;simp only[aH,zD,bK,cQ]at h;obtain⟨⟨⟨⟨⟨h1,h2⟩,h3⟩,h4⟩,h5⟩,h6⟩:=h;refine⟨h1,h2,?_,?_,?_,?_,?_,h6⟩
 ·intro i oi hi hoi j hj;have:=h3 i hi;simp only[hoi,aH,bK,zD]at this;exact this.1 j hj
 ·intro i j oi oj d hi hj hoi hoj hd hne;have:=h3 i hi;simp only[hoi,aH,bK,zD,cQ]at this;have:=this.2 j hj;simp only[hoj,dO,hd,aH,bX,beq_iff_eq,hne,false_or,bne_iff_ne]at this;exact this.1
 ·intro i j oi oj d hi hj hoi hoj hd hm;have:=h3 i hi;simp only[hoi,aH,bK,zD,cQ]at this;have:=this.2 j hj;simp only[hoj,dO,hd,aH,bX,Bool.not_eq_true',bY,decide_eq_false_iff_not,zD,hm,not_true_eq_false,false_or]at this;exact this.2
 ·intro t o ht ho;have hlt:t<ops.size:=(aR.1 ho).1;have:=h4 (t-n) (by omega);rw[show n+(t-n)=t by omega]at this;simp only[ho,bX,beq_iff_eq,bY,zD]at this;rcases this with h|h
  ·omega
  ·exact h
 ·intro i hi hf;have:=h5 i hi;simpa[hf]using this
theorem zcE(a:Act)(d:Option Tmp)(v:Value)(t:Nat):(a.put d v).tmps[t]? = if d=some t then(a.tmps[t]?).map (fun _=>v)else a.tmps[t]?:=by
 cases d with
 |none=>simp[Act.put]|some d=>
  simp only[Act.put,Option.some.injEq];by_cases h:d=t
  ·subst h;simp only[if_true];by_cases h2:d<a.tmps.size
   ·simp[h2]
   ·simp[fQ (Nat.le_of_not_lt h2),fQ (xs:=a.tmps.setIfInBounds d v) (by simpa using h2)]
  ·rw[zH h,Array.getElem?_setIfInBounds_ne h]
structure Holds (ops:Array Oper) (n:Nat) (a0 a:Act) (C:Nat->Value) (L:Nat->Prop):Prop where
 defers:a.defers=a0.defers
 other:∀t,(∀j oj,j<n->L j->ops[j]? = some oj->oj.dst≠some t)->a.tmps[t]? = a0.tmps[t]?
 at_:∀j oj t,j<n->L j->ops[j]? = some oj->oj.dst=some t->a.tmps[t]? = (a0.tmps[t]?).map (fun _=>C j)
theorem Holds.put{a0 a:Act}{C:Nat->Value}{L:Nat->Prop}(S:ExtS ops n)(h:Holds ops n a0 a C L){i:Nat}{oi:Oper}(hi:i<n)(hoi:ops[i]? = some oi)(hL:¬L i):
  Holds ops n a0 (a.put oi.dst (C i)) C (fun j=>L j∨j=i):=by
 refine⟨?_,?_,?_⟩
 ·rw[<-h.defers];cases oi.dst<;>rfl
 ·intro t ht;rw[zcE,zH (ht i oi hi (.inr rfl) hoi)];exact h.other t fun j oj hj hl=>ht j oj hj (.inl hl)
 ·intro j oj t hj hl hoj hd;rw[zcE];rcases hl with hl|rfl
  ·have hne:i≠j:=fun e=>hL (e▸hl);rw[zH (S.dst i j oi oj t hi hj hoi hoj hd (Ne.symm hne))];exact h.at_ j oj t hj hl hoj hd
  ·have:oi=oj:=Option.some.inj (hoi.symm.trans hoj);subst this;rw[zI hd];rw[h.other t fun k ok hk hlk hok hdk=>S.dst k j ok oi t hk hj hok hoj hd (fun e=>hL (e▸hlk)) hdk]
theorem Holds.congrC{a0 a:Act}{C C':Nat->Value}{L:Nat->Prop}(h:Holds ops n a0 a C L)(hc:∀j,j<n->L j->C j=C' j):Holds ops n a0 a C' L:=
 ⟨h.defers,h.other,fun j oj t hj hl hoj hd=>by rw[h.at_ j oj t hj hl hoj hd,hc j hj hl]⟩
theorem Holds.congrL{a0 a:Act}{C:Nat->Value}{L L':Nat->Prop}(h:Holds ops n a0 a C L)(hc:∀j,j<n->(L j↔L' j)):Holds ops n a0 a C L':=
 ⟨h.defers,fun t ht=>h.other t fun j oj hj hl=>ht j oj hj ((hc j hj).1 hl),fun j oj t hj hl=>h.at_ j oj t hj ((hc j hj).2 hl)⟩
theorem Holds.eq{a0 a b:Act}{C:Nat->Value}{L:Nat->Prop}(h:Holds ops n a0 a C L)(k:Holds ops n a0 b C L):a=b:=by
 have ht:a.tmps=b.tmps:=by
  apply fL;intro t;by_cases hx:∃j oj,j<n/\L j/\ops[j]? = some oj/\oj.dst=some t
  ·obtain⟨j,oj,hj,hl,hoj,hd⟩:=hx;rw[h.at_ j oj t hj hl hoj hd,k.at_ j oj t hj hl hoj hd]
  ·rw[h.other t fun j oj hj hl hoj hd=>hx ⟨j,oj,hj,hl,hoj,hd⟩,k.other t fun j oj hj hl hoj hd=>hx ⟨j,oj,hj,hl,hoj,hd⟩]
 have hd:a.defers=b.defers:=h.defers.trans k.defers.symm;cases a;cases b;simp_all
theorem Holds.same{a0 a b:Act}{C:Nat->Value}{L M:Nat->Prop}(S:ExtS ops n)(h:Holds ops n a0 a C L)(k:Holds ops n a0 b C M){i:Nat}{oi:Oper}(hi:i<n)(hoi:ops[i]? = some oi) (hL:∀j∈zfH oi,L j) (hM:∀j∈zfH oi,M j):∀t∈oi.looksAt ops,a.tmps[t]? = b.tmps[t]?:=by
 intro t ht;by_cases hx:∃j oj,j<n/\ops[j]? = some oj/\oj.dst=some t
 ·obtain⟨j,oj,hj,hoj,hd⟩:=hx;have:=S.look i j oi oj t hi hj hoi hoj hd ht;rw[h.at_ j oj t hj (hL j this) hoj hd,k.at_ j oj t hj (hM j this) hoj hd]
 ·rw[h.other t fun j oj hj _ hoj hd=>hx ⟨j,oj,hj,hoj,hd⟩,k.other t fun j oj hj _ hoj hd=>hx ⟨j,oj,hj,hoj,hd⟩]
theorem zzG{a b:Act}{o:Oper}(hs:∀cs c,o.op≠.select cs c)(h:∀t∈o.looksAt ops,a.tmps[t]? = b.tmps[t]?):
  execOp a.eval o=execOp b.eval o/\Region.wanted o (yielded ops a.tmps)=Region.wanted o (yielded ops b.tmps):=by
 refine⟨execOp_congr o hs fun x hx=>?_,?_⟩
 ·cases x with
  |tmp t=>have:=h t (List.mem_append_left _ (List.mem_filterMap.2 ⟨.tmp t,by simpa using hx,rfl⟩));simp only[Act.eval,gJ,this]|_=>rfl
 ·unfold Region.wanted;cases hg:o.guard with
  |none=>rfl|some gw=>
   obtain⟨g,want⟩:=gw;have hy:yielded ops a.tmps g=yielded ops b.tmps g:=by
    unfold yielded;cases ht:(ops[g]?).bind (·.dst) with
    |none=>rfl|some t=>have:=h t (by simp[Oper.looksAt,hg,ht]);simp only[dO,this]
   simp only[hy]
end
end
section
def OnlyNormal(Q:Exit->Act->World->Prop):Exit->Act->World->Prop
 |.normal,a,w=>Q .normal a w|_,_,_=>False
theorem OnlyNormal.imp{Q:Exit->Act->World->Prop}:∀(e:Exit) (a:Act) (w:World),OnlyNormal Q e a w->Q e a w:=fun e a w h=>by cases e<;>first|exact h|exact(h:False).elim
theorem yiP(p q:Nat->Bool)(i:Nat)(hp:p i=true)(hq:q i=false)(h:∀j,j≠i->p j=q j):∀l:List Nat,l.Nodup->i∈l->l.countP p=l.countP q+1
 |[],_,hi=>by cases hi
 |x::l,hnd,hi=>by
  have hnd':=List.nodup_cons.1 hnd;by_cases hx:x=i
  ·subst hx;have:l.countP p=l.countP q:=List.countP_congr fun j hj=>by have hne:j≠x:=fun e=>hnd'.1 (e▸hj);rw[h j hne]
   rw[fS,fS,hp,hq,this];simp
  ·have hi':i∈l:=(List.mem_cons.1 hi).resolve_left (fun e=>hx e.symm);rw[fS,fS,yiP p q i hp hq h l hnd'.2 hi',h x hx];omega
section
variable {P:Program}{ops:Array Oper}{n:Nat}{Φ:zhT}{w0:World}
def okAt(P:Program)(ops:Array Oper)(n:Nat)(Φ:zhT)(w0:World)(vs:Nat->Gv)(k:Nat)(o:Oper)(a:Act)(c:Value):Prop:=
 match Φ k with
 |none=>ykN P ops n Φ w0 vs k o a c|some (.inl x)=>c=x/\zgT ops n k=false/\yiD P ops Φ w0 vs o a (fun g _=>g.v=x)|some (.inr φ)=>c=(vs k).v/\zgT ops n k=false/\(∀v w w',φ v w->Ext w w'->φ v w')/\(yjQ o=true->∀g w,φ g w->Old w g.v/\∀b,¬g.f b)/\yiD P ops Φ w0 vs o a φ
def frK(ops:Array Oper)(Φ:zhT)(k:Nat):Bool:=match ops[k]?,Φ k with
 |some o,some (.inr _)=>yjQ o|_,_=>false
def ApP(ops:Array Oper)(Φ:zhT)(vs:Nat->Gv)(i j:Nat):Prop:=
 (frK ops Φ i=true->frK ops Φ j=true->(vs i).v≠(vs j).v)/\(relK Φ i=true->frK ops Φ j=true->∀b o,(vs j).v = .pointer (some ⟨b,o,none⟩)->¬(vs i).f b)
def Apart(ops:Array Oper)(n:Nat)(Φ:zhT)(vs:Nat->Gv):Prop:=∀i j,i<n->j<n->i≠j->ApP ops Φ vs i j
theorem ysG{ops:Array Oper}{Φ:zhT}{i:Nat}(h:relK Φ i=false):frK ops Φ i=false:=by
 unfold frK;unfold relK at h;split
 ·rename_i h2;rw[h2]at h;cases h
 ·rfl
theorem ApP.no_l{ops:Array Oper}{Φ:zhT}{vs:Nat->Gv}{i j:Nat}(h:relK Φ i=false):ApP ops Φ vs i j:=⟨fun h2=>absurd h2 (by rw[ysG h];simp),fun h2=>absurd h2 (by rw[h];simp)⟩
theorem ApP.no_r{ops:Array Oper}{Φ:zhT}{vs:Nat->Gv}{i j:Nat}(h:relK Φ j=false):ApP ops Φ vs i j:=⟨fun _ h2=>absurd h2 (by rw[ysG h];simp),fun _ h2=>absurd h2 (by rw[ysG h];simp)⟩
theorem yaA{Φ:zhT}{i:Nat}(h:∀φ,Φ i≠some (.inr φ)):relK Φ i=false:=by
 unfold relK;split
 ·rename_i h2;exact absurd h2 (h _)
 ·rfl
theorem yzF{vs:Nat->Gv}{Fin:Act->Prop}:∀(l:List Oper) (k:Nat) (a:Act),(∀j o,l[j]? = some o->ops[k+j]? = some o)->wpT P ops n Φ w0 vs Fin k l a ->∃(C:Nat->Value) (T:Nat->Act),T k=a/\(∀i,k<=i->i<k+l.length->∃o,ops[i]? = some o/\T (i+1)=(T i).put o.dst (C i)/\okAt P ops n Φ w0 vs i o (T i) (C i))/\Fin (T (k+l.length))
 |[],k,a,_,h=>⟨fun _=>undef,fun _=>a,rfl,fun i h1 h2=>by simp at h2;omega,h⟩|o::l,k,a,hl,h=>by
  have h0:ops[k]? = some o:=hl 0 o rfl
  have hl':∀j o',l[j]? = some o'->ops[k+1+j]? = some o':=fun j o' hj=>by
   have:=hl (j+1) o' (by simpa using hj)
   rwa[show k+(j+1)=k+1+j by omega]at this
  have key:∃c,okAt P ops n Φ w0 vs k o a c/\wpT P ops n Φ w0 vs Fin (k+1) l (a.put o.dst c):=by
   unfold wpT at h;unfold okAt;cases hk:Φ k with
   |none=>simp only[hk]at h;exact h|some x=>
    cases x with
    |inl x=>simp only[hk]at h;exact⟨x,⟨rfl,h.1,h.2.1⟩,h.2.2⟩|inr φ=>simp only[hk]at h;exact⟨(vs k).v,⟨rfl,h.1,h.2.1,h.2.2.1,h.2.2.2.1⟩,h.2.2.2.2⟩
  obtain⟨c,hc,hw⟩:=key;obtain⟨C,T,hT,hst,hF⟩:=yzF l (k+1) _ hl' hw;refine⟨fun i=>if i=k then c else C i,fun i=>if i=k then a else T i,by simp,?_,?_⟩
  ·intro i h1 h2;by_cases hik:i=k
   ·subst hik;refine⟨o,h0,?_,?_⟩
    ·simp[hT]
    ·simpa using hc
   ·obtain⟨o',ho',ht,hok⟩:=hst i (by omega) (by simp only[aS]at h2;omega);refine⟨o',ho',?_,?_⟩
    ·show(if i+1=k then a else T (i+1))=(if i=k then a else T i).put o'.dst (if i=k then c else C i);rw[zH (by omega),zH hik,zH hik];exact ht
    ·show okAt P ops n Φ w0 vs i o' (if i=k then a else T i) (if i=k then c else C i);rw[zH hik,zH hik];exact hok
  ·show Fin (if k+(o::l).length=k then a else T (k+(o::l).length));rw[zH (by simp only[aS];omega),show k+(o::l).length=k+1+l.length by simp only[aS];omega];exact hF
structure TRun (P:Program) (ops:Array Oper) (n:Nat) (Φ:zhT) (w0:World) (a0:Act) (vs:Nat->Gv) (C:Nat->Value) (T:Nat->Act):Prop where
 start:T 0=a0
 step:∀i,i<n->∃o,ops[i]? = some o/\T (i+1)=(T i).put o.dst (C i)/\okAt P ops n Φ w0 vs i o (T i) (C i)
theorem TRun.holds{a0:Act}{vs:Nat->Gv}{C:Nat->Value}{T:Nat->Act}(S:ExtS ops n)(R:TRun P ops n Φ w0 a0 vs C T):∀i,i<=n->Holds ops n a0 (T i) C (fun j=>j<i)
 |0,_=>by rw[R.start];exact⟨rfl,fun _ _=>rfl,fun j oj t hj hl=>absurd hl (by omega)⟩
 |i+1,hi=>by obtain⟨o,ho,ht,_⟩:=R.step i (by omega);rw[ht];exact((R.holds S i (by omega)).put S (by omega) ho (by omega)).congrL fun j _=>by omega
theorem TRun.agree{a0:Act}{vs vs':Nat->Gv}{C C':Nat->Value}{T T':Nat->Act}{L:Nat->Prop}{w:World}(S:ExtS ops n)(R:TRun P ops n Φ w0 a0 vs C T)(R':TRun P ops n Φ w0 a0 vs' C' T') (hw:Ext w0 w) (hcl:∀i oi,i<n->L i->ops[i]? = some oi->∀j∈zfH oi,L j) (hvs:∀j,j<n->L j->vs j=vs' j) (hf:∀j,j<n->L j->ziI Φ vs w j) (hf':∀j,j<n->L j->ziI Φ vs' w j):∀i,i<n->L i->C i=C' i:=by
 intro i;induction i using Nat.strongRecOn with
 |_ i ih=>
  intro hi hL;obtain⟨o,ho,_,hok⟩:=R.step i hi;obtain⟨o',ho',_,hok'⟩:=R'.step i hi;have:o=o':=Option.some.inj (ho.symm.trans ho');subst this;have hdep:=hcl i o hi hL ho;have hlt:=S.deps i o hi ho;have hH:=(R.holds S i (by omega));have hH':=(R'.holds S i (by omega));have hH2:Holds ops n a0 (T i) C' (fun j=>j<i/\j∈zfH o)∨True:=.inr trivial;have hlook:∀t∈o.looksAt ops,(T i).tmps[t]? = (T' i).tmps[t]?:=by
   intro t ht;by_cases hx:∃j oj,j<n/\ops[j]? = some oj/\oj.dst=some t
   ·obtain⟨j,oj,hj,hoj,hd⟩:=hx;have hm:=S.look i j o oj t hi hj ho hoj hd ht;have hji:=hlt j hm;rw[hH.at_ j oj t hj hji hoj hd,hH'.at_ j oj t hj hji hoj hd,ih j hji hj (hdep j hm)]
   ·rw[hH.other t fun j oj hj _ hoj hd=>hx ⟨j,oj,hj,hoj,hd⟩,hH'.other t fun j oj hj _ hoj hd=>hx ⟨j,oj,hj,hoj,hd⟩]
  obtain⟨he,hwt⟩:=zzG (fun cs b=>Region.noSelect_spec S.sel i o cs b ho) hlook;have hfl:zjQ Φ vs w (zfH o):=zvF.2 fun j hj=>hf j (by have:=hlt j hj;omega) (hdep j hj);have hfl':zjQ Φ vs' w (zfH o):=zvF.2 fun j hj=>hf' j (by have:=hlt j hj;omega) (hdep j hj);unfold okAt at hok hok';cases hk:Φ i with
  |none=>
   simp only[hk]at hok hok';unfold ykN at hok hok';by_cases hfl2:zgT ops n i=true
   ·rw[zI hfl2]at hok hok';rcases hok with⟨h1,h2⟩|⟨h1,h2⟩
    ·rcases hok' with⟨h3,h4⟩|⟨h3,h4⟩
     ·have e1:=h2 w (fun _=>.inl hw);have e2:=h4 w (fun _=>.inl hw);rw[he,e2]at e1;simpa using e1.symm
     ·rw[hwt,h3]at h1;cases h1
    ·rcases hok' with⟨h3,h4⟩|⟨h3,h4⟩
     ·rw[hwt,h3]at h1;cases h1
     ·rw[h2,h4]
   ·rw[zH hfl2]at hok hok';rcases hok with⟨h1,h2⟩|⟨h1,h2⟩
    ·rcases hok' with⟨h3,h4⟩|⟨h3,h4⟩
     ·have e1:=h2 w hw hfl;have e2:=h4 w hw hfl';rw[he,e2]at e1;simpa using e1.symm
     ·rw[hwt,h3]at h1;cases h1
    ·rcases hok' with⟨h3,h4⟩|⟨h3,h4⟩
     ·rw[hwt,h3]at h1;cases h1
     ·rw[h2,h4]
  |some x=>
   cases x with
   |inl x=>simp only[hk]at hok hok';rw[hok.1,hok'.1]|inr φ=>simp only[hk]at hok hok';rw[hok.1,hok'.1,hvs i hi hL]
theorem zlY{listed:Array Bool}{i:Nat}(hi:i<listed.size):listed.getD i true=listed.getD i false:=by simp[hi]
structure Mid (P:Program) (ops:Array Oper) (n:Nat) (Φ:zhT) (w0:World) (a0:Act) (listed:Array Bool) (a:Act) (w:World) (vs:Nat->Gv) (C:Nat->Value) (T:Nat->Act):Prop where
 size:listed.size=ops.size
 closed:∀i oi,i<n->listed.getD i false=true->ops[i]? = some oi->∀j∈zfH oi,listed.getD j false=true
 tail:∀t,n<=t->t<ops.size->listed.getD t false=false
 run:TRun P ops n Φ w0 a0 vs C T
 frame:Holds ops n a0 a C (fun j=>listed.getD j false=true)
 world:Ext w0 w
 facts:∀j,j<n->listed.getD j false=true->ziI Φ vs w j
 foot:∀j,j<n->listed.getD j false=true->relK Φ j=true->∀b,(vs j).f b->b<w.heap.size
 apart:∀j k,j<n->k<n->j≠k->listed.getD j false=true->listed.getD k false=true->ApP ops Φ vs j k
theorem ykY{vs:Nat->Gv}{w w':World}{j:Nat}(hst:∀φ,Φ j=some (.inr φ)->∀v w w',φ v w->Ext w w'->φ v w')(h:ziI Φ vs w j)(hx:Ext w w'):ziI Φ vs w' j:=by
 unfold ziI at *;cases hk:Φ j with
 |none=>trivial|some x=>
  cases x with
  |inl x=>trivial|inr φ=>simp only[hk]at h ⊢;exact hst φ hk _ _ _ h hx
theorem TRun.stable{a0:Act}{vs:Nat->Gv}{C:Nat->Value}{T:Nat->Act}(R:TRun P ops n Φ w0 a0 vs C T){j:Nat}(hj:j<n)(φ:Gv->World->Prop)(hk:Φ j=some (.inr φ)):∀v w w',φ v w->Ext w w'->φ v w':=by obtain⟨o,_,_,hok⟩:=R.step j hj;unfold okAt at hok;simp only[hk]at hok;exact hok.2.2.1
theorem Mid.comes{Q:Exit->Act->World->Prop}{a0:Act}(S:ExtS ops n)(hall:∀vs,∃C T,TRun P ops n Φ w0 a0 vs C T) {listed:Array Bool} {a:Act} {w:World} {vs:Nat->Gv} {C:Nat->Value} {T:Nat->Act} (M:Mid P ops n Φ w0 a0 listed a w vs C T) {i:Nat} (hi:i<n) (hr:i∈Region.ready .any ops listed) {K:Act->World->Prop} (hK:∀a' w' vs' C' T',Mid P ops n Φ w0 a0 (listed.setIfInBounds i true) a' w' vs' C' T'->K a' w'):wpOp P ops Q i K a w:=by
 obtain⟨hun,o,ho,hdone⟩:=mem_ready.1 hr;have hisz:i<listed.size:=by rw[M.size];exact cE hi S.le
 have hun':listed.getD i false=false:=by rw[<-zlY hisz];exact hun
 obtain⟨o',ho',_,hok⟩:=M.run.step i hi;have:o=o':=Option.some.inj (ho.symm.trans ho');subst this;have hdep:∀j∈zfH o,listed.getD j false=true:=fun j hj=>by obtain⟨e,he,hb,hon⟩:=zrY.1 hj;rw[<-hon];exact hdone e he hb
 have hlt:=S.deps i o hi ho;have hH:=M.run.holds S i (by omega);have hlook:=M.frame.same S hH hi ho hdep hlt;obtain⟨he,hwt⟩:=zzG (fun cs b=>Region.noSelect_spec S.sel i o cs b ho) hlook;have hfl:zjQ Φ vs w (zfH o):=zvF.2 fun j hj=>M.facts j (by have:=hlt j hj;omega) (hdep j hj)
 have hset:∀j,(listed.setIfInBounds i true).getD j false=true↔listed.getD j false=true∨j=i:=fun j=>by
  by_cases hji:j=i
  ·subst hji;simp[hisz]
  ·rw[getD_set_ne false (Ne.symm hji)];simp[hji]
 -- with the same given values
 have stay:(∀φ,Φ i≠some (.inr φ))->∀w',Ext w w'->ziI Φ vs w' i->Mid P ops n Φ w0 a0 (listed.setIfInBounds i true) (a.put o.dst (C i)) w' vs C T:=fun hno w' hx hfi=>
  { size:=by simp[M.size]
    closed:=fun k ok hk hl hok' j hj=>by
     rcases(hset k).1 hl with h|rfl
     ·exact getD_set_true (M.closed k ok hk h hok' j hj)
     ·have:o=ok:=Option.some.inj (ho.symm.trans hok');subst this;exact getD_set_true (hdep j hj)
    tail:=fun t ht hts=>by rw[getD_set_ne false (by omega)];exact M.tail t ht hts
    run:=M.run
    frame:=(M.frame.put S hi ho (by rw[hun'];simp)).congrL fun j _=>(hset j).symm
    world:=M.world.trans hx
    facts:=fun j hj hl=>by
     rcases(hset j).1 hl with h|rfl
     ·exact ykY (M.run.stable hj) (M.facts j hj h) hx
     ·exact hfi
    foot:=fun j hj hl hrr b hb=>by
     rcases(hset j).1 hl with h|rfl
     ·exact cE (M.foot j hj h hrr b hb) hx.size
     ·exact absurd hrr (by rw[yaA hno];simp)
    apart:=fun j k hj hk hjk hlj hlk=>by
     rcases(hset j).1 hlj with h|rfl
     ·rcases(hset k).1 hlk with h'|rfl
      ·exact M.apart j k hj hk hjk h h'
      ·exact .no_r (yaA hno)
     ·exact .no_l (yaA hno) }
 unfold wpOp;simp only[ho];unfold okAt at hok;cases hk:Φ i with
 |none=>
  simp only[hk]at hok;have hfi:∀w',ziI Φ vs w' i:=fun w'=>by unfold ziI;rw[hk];trivial
  have hy:(Region.wanted o (yielded ops a.tmps)=true/\(execOp a.eval o).run P w = .ok (.value (C i)) w)∨(Region.wanted o (yielded ops a.tmps)=false/\C i=undef):=by
   unfold ykN at hok;rw[he,hwt];by_cases hfl2:zgT ops n i=true
   ·rw[zI hfl2]at hok;exact hok.imp (fun⟨h1,h2⟩=>⟨h1,h2 w (fun _=>.inl M.world)⟩) id
   ·rw[zH hfl2]at hok;exact hok.imp (fun⟨h1,h2⟩=>⟨h1,h2 w M.world hfl⟩) id
  rcases hy with⟨h1,h2⟩|⟨h1,h2⟩
  ·simp only[h1,if_true,Oper.wp,h2,Oper.upon];exact .inl (hK _ _ _ _ _ (stay (fun φ h=>by rw[hk]at h;cases h) w (Ext.refl w) (hfi w)))
  ·simp only[h1,Bool.false_eq_true,if_false];rw[<-h2];exact hK _ _ _ _ _ (stay (fun φ h=>by rw[hk]at h;cases h) w (Ext.refl w) (hfi w))
 |some x=>
  cases x with
  |inl x=>
   simp only[hk]at hok;obtain⟨hC,_,hst⟩:=hok;have hfi:∀w',ziI Φ vs w' i:=fun w'=>by unfold ziI;rw[hk];trivial
   unfold yiD at hst;rw[<-hwt,<-he]at hst;by_cases hwd:Region.wanted o (yielded ops a.tmps)=true
   ·rw[zI hwd]at hst ⊢;refine .inl (yaJ (hst w M.world hfl (fun v w'=>v=x/\Ext w w') (fun g w' hx hv _ _=>⟨hv,hx⟩)) fun v w' hv=>?_);obtain⟨rfl,hx⟩:=hv;have:=stay (fun φ h=>by rw[hk]at h;cases h) w' hx (hfi w');rw[hC]at this;exact hK _ _ _ _ _ this
   ·rw[zH hwd]at hst ⊢;have:=stay (fun φ h=>by rw[hk]at h;cases h) w (Ext.refl w) (hfi w);rw[hC,<-hst w]at this;exact hK _ _ _ _ _ this
  |inr φ=>
   simp only[hk]at hok;obtain⟨hC,_,hsb,hold,hst⟩:=hok;unfold yiD at hst;rw[<-hwt,<-he]at hst
   -- a new given value for this operation
   have fresh:∀g w',Ext w w'->φ g w'->made Φ vs o w g w'->(yjQ o=true->¬Old w g.v)->K (a.put o.dst g.v) w':=fun g w' hx hv hmd hnew=>by
    obtain⟨C',T',R'⟩:=hall (fun j=>if j=i then g else vs j)
    have hvs:∀j,j<n->listed.getD j false=true->vs j=(fun j=>if j=i then g else vs j) j:=fun j _ hl=>by
     have:j≠i:=fun e=>by rw[e,hun']at hl;cases hl
     simp[this]
    have hfact:∀j,j<n->listed.getD j false=true->ziI Φ (fun j=>if j=i then g else vs j) w j:=fun j hj hl=>by have h1:=M.facts j hj hl;unfold ziI at h1 ⊢;have h2:=hvs j hj hl;simp only at h2 ⊢;rw[<-h2];exact h1
    have hag:=TRun.agree S M.run R' (L:=fun j=>listed.getD j false=true) M.world M.closed hvs M.facts hfact;obtain⟨o2,ho2,_,hok2⟩:=R'.step i hi;have hC':C' i=g.v:=by unfold okAt at hok2;simp only[hk]at hok2;rw[hok2.1];simp
    have hfr:=((M.frame.congrC hag).put S hi ho (by rw[hun'];simp)).congrL fun j _=>(hset j).symm;rw[hC']at hfr
    have old2:∀t,t<n->listed.getD t false=true->frK ops Φ t=true->Old w (vs t).v/\∀b,¬(vs t).f b:=fun t ht hl ft=>by
     obtain⟨ot,hot,_,hokt⟩:=M.run.step t ht;have hf:=M.facts t ht hl;unfold frK at ft;rw[hot]at ft;unfold okAt at hokt;unfold ziI at hf;cases hkt:Φ t with
     |none=>rw[hkt]at ft;cases ft
     |some x=>cases x with
      |inl x=>rw[hkt]at ft;cases ft
      |inr ψ=>rw[hkt]at ft hf;simp only[hkt]at hokt;exact hokt.2.2.2.1 ft _ _ hf
    have old:=fun t ht hl ft=>(old2 t ht hl ft).1;have hni:frK ops Φ i=true->yjQ o=true:=fun h=>by unfold frK at h;rw[ho,hk]at h;exact h
    refine hK _ _ _ C' T' ⟨by simp[M.size],fun k ok hk' hl hok' j hj=>?_,fun t ht hts=>by rw[getD_set_ne false (by omega)];exact M.tail t ht hts,R',hfr,M.world.trans hx,fun j hj hl=>?_,fun j hj hl hr b hb=>?_,fun j k hj hk2 hjk hlj hlk=>?_⟩
    ·rcases(hset k).1 hl with h|rfl
     ·exact getD_set_true (M.closed k ok hk' h hok' j hj)
     ·have:o=ok:=Option.some.inj (ho.symm.trans hok');subst this;exact getD_set_true (hdep j hj)
    ·rcases(hset j).1 hl with h|rfl
     ·exact ykY (M.run.stable hj) (hfact j hj h) hx
     ·unfold ziI;rw[hk];simpa using hv
    ·rcases(hset j).1 hl with h|rfl
     ·have hji:j≠i:=fun e=>by rw[e,hun']at h;cases h
      simp only[hji,if_false]at hb;exact cE (M.foot j hj h hr b hb) hx.size
     ·simp only[if_true]at hb;exact(hmd b hb).1
    ·rcases(hset j).1 hlj with h|rfl
     ·have hji:j≠i:=fun e=>by rw[e,hun']at h;cases h
      rcases(hset k).1 hlk with h'|rfl
      ·have hki:k≠i:=fun e=>by rw[e,hun']at h';cases h'
       have:=M.apart j k hj hk2 hjk h h';unfold ApP at this ⊢;simpa only[hji,hki,if_false]using this
      ·unfold ApP;simp only[hji,if_false,if_true];refine⟨fun fj fk e=>hnew (hni fk) (e▸old j hj h fj),fun rj fk b o' e hb=>?_⟩;exact hnew (hni fk) ⟨b,o',e,M.foot j hj h rj b hb⟩
     ·rcases(hset k).1 hlk with h'|rfl
      ·have hki:k≠j:=fun e=>hjk e.symm;unfold ApP;simp only[hki,if_false,if_true];refine⟨fun fj fk e=>hnew (hni fj) (e▸old k hk2 h' fk),fun _ fk b o' e hb=>?_⟩;rcases(hmd b hb).2 with h3|⟨t,ht,hrt,htb⟩
       ·obtain⟨b2,o2',e2,hlt2⟩:=old k hk2 h' fk;rw[e]at e2;injection e2 with e2;injection e2 with e2;injection e2 with e2 _;omega
       ·have htn:t<n:=by have:=hlt t ht;omega
        by_cases htk:t=k
        ·subst htk;exact(old2 t htn (hdep t ht) fk).2 b htb
        ·exact(M.apart t k htn hk2 htk (hdep t ht) h').2 hrt fk b o' e htb
      ·exact absurd rfl hjk
   by_cases hwd:Region.wanted o (yielded ops a.tmps)=true
   ·rw[zI hwd]at hst ⊢;exact .inl (yaJ (hst w M.world hfl (fun v w'=>K (a.put o.dst v) w') fresh) fun v w' hv=>hv)
   ·rw[zH hwd]at hst ⊢;refine fresh ⟨undef,fun _=>false⟩ w (Ext.refl w) (hst w) (fun _ h=>absurd h gN) fun hn=>?_;rintro⟨b,o',he',_⟩;cases he'
def zfF(n:Nat)(listed:Array Bool):Nat:=(cU n).countP fun j=>!listed.getD j false
theorem zyS{listed:Array Bool}{i:Nat}(hi:i<n)(hs:i<listed.size)(hu:listed.getD i false=false):
  zfF n listed=zfF n (listed.setIfInBounds i true)+1:=
 yiP _ _ i (by rw[hu];rfl) (by simp[hs]) (fun j hj=>by rw[getD_set_ne false (Ne.symm hj)]) _ List.nodup_range (cQ.2 hi)
theorem zuG{p:Nat->Bool}:∀m,(∃i,i<m/\p i=false)->∃i,i<m/\p i=false/\∀j,j<i->p j=true
 |0,⟨i,hi,_⟩=>by omega
 |m+1,⟨i,hi,hp⟩=>by
  by_cases h:∃j,j<m/\p j=false
  ·obtain⟨j,h1,h2,h3⟩:=zuG m h;exact⟨j,by omega,h2,h3⟩
  ·refine⟨i,hi,hp,fun j hj=>?_⟩;cases hpj:p j with
   |true=>rfl|false=>exact absurd ⟨j,by omega,hpj⟩ h
theorem zsA{listed:Array Bool}(h:zfF n listed=0)(i:Nat)(hi:i<n):listed.getD i false=true:=by unfold zfF at h;rw[gF]at h;have:=h i (cQ.2 hi);simpa using this
theorem ybR{Q:Exit->Act->World->Prop}{a0:Act}(hX:(Φ xm).isSome=false)(S:ExtS ops n)(hall:∀vs,∃C T,TRun P ops n Φ w0 a0 vs C T) (hend:∀listed a w vs C T,Mid P ops n Φ w0 a0 listed a w vs C T->zfF n listed=0->wpAny P .any ops (OnlyNormal Q) (ops.size-n) listed a w):∀(m:Nat) (listed:Array Bool) (a:Act) (w:World) (vs:Nat->Gv) (C:Nat->Value) (T:Nat->Act),zfF n listed=m->Mid P ops n Φ w0 a0 listed a w vs C T ->
   wpAny P .any ops (OnlyNormal Q) (m+(ops.size-n)) listed a w
 |0,listed,a,w,vs,C,T,hm,M=>by rw[aU];exact hend _ _ _ _ _ _ M hm
 |m+1,listed,a,w,vs,C,T,hm,M=>by
  have hsz:∀i,i<n->i<listed.size:=fun i hi=>by rw[M.size];exact cE hi S.le
  have hex:∃i,i<n/\listed.getD i false=false:=by
   have:¬zfF n listed=0:=by omega
   unfold zfF at this;rw[gF]at this;have h2:∃i,¬(i∈cU n->¬((!listed.getD i false)=true)):=Classical.not_forall.1 this;obtain⟨i,h⟩:=h2;by_cases hi:i<n
   ·refine⟨i,hi,?_⟩;cases hp:listed.getD i false with
    |false=>rfl|true=>exact absurd (fun _=>by rw[hp];simp) h
   ·exact absurd (fun hmem=>absurd (cQ.1 hmem) hi) h
  obtain⟨i,hi,hu,hleast⟩:=zuG n hex;have hirdy:∀oi,ops[i]? = some oi->i∈Region.ready .any ops listed:=fun oi hoi=>
   mem_ready.2 ⟨by rw[zlY (hsz i hi)];exact hu,oi,hoi,fun e he hb=>hleast _ (S.deps i oi hi hoi _ (zrY.2 ⟨e,he,hb,rfl⟩))⟩
  obtain⟨oi,hoi,_,hokI⟩:=M.run.step i hi;have hri:=hirdy oi hoi;rw[show m+1+(ops.size-n)=(m+(ops.size-n))+1 by omega]
  -- is there one that does not float, and is not listed?
  by_cases hnf:∃k,k<n/\listed.getD k false=false/\zgT ops n k=false
  ·refine⟨fun h0=>(by rw[h0]at hri;cases hri),fun j hj=>?_⟩;have hjn:j<n:=by
    rcases Nat.lt_or_ge j n with h|h
    ·exact h
    ·exfalso;obtain⟨_,oj,hoj,hdone⟩:=mem_ready.1 hj;obtain⟨k,hk,hku,hkf⟩:=hnf;rcases Nat.eq_or_lt_of_le h with h|h
     ·subst h;unfold zgT at hkf;simp only[hoj,iK,bY,zD]at hkf;have hall:∀q∈anc ops n (zfH oj),listed.getD q false=true:=
       ylW (p:=fun q=>listed.getD q false=true) (N:=n) (fun q oq hqj hq hoq r hr=>M.closed q oq hqj hq hoq r hr) n _ (aK _) (fun q hq=>by
        obtain⟨e,he,hb,hon⟩:=zrY.1 hq
        rw[<-hon];exact hdone e he hb)
      have:=hall k hkf;rw[hku]at this;cases this
     ·have hj1:=S.chain j oj h hoj;obtain⟨e,he,hb,hon⟩:=zrY.1 hj1;have:=hdone e he hb;rw[hon,M.tail (j-1) (by omega) (by have:=(aR.1 hoj).1;omega)]at this;cases this
   refine M.comes S hall hjn hj fun a' w' vs' C' T' M'=>?_;have hju:listed.getD j false=false:=by rw[<-zlY (hsz j hjn)];exact(mem_ready.1 hj).1
   have:=zyS hjn (hsz j hjn) hju;exact ybR hX S hall hend m _ _ _ _ _ _ (by omega) M'
  ·-- all that is left of the head zgT: the first is taken first
   have hfl:zgT ops n i=true:=by
    cases h:zgT ops n i with
    |true=>rfl|false=>exact absurd ⟨i,hi,hu,h⟩ hnf
   have hdep:∀j∈zfH oi,listed.getD j false=true:=fun j hj=>hleast j (S.deps i oi hi hoi j hj);have hlook:=M.frame.same S (M.run.holds S i (by omega)) hi hoi hdep (S.deps i oi hi hoi);obtain⟨he,hwt⟩:=zzG (fun cs b=>Region.noSelect_spec S.sel i oi cs b hoi) hlook;have hy:Yields P ops oi (C i) a/\Φ i=none:=by
    unfold okAt at hokI;cases hk:Φ i with
    |none=>simp only[hk]at hokI;unfold ykN at hokI;rw[zI hfl]at hokI;have hY:Yields P ops oi (C i) (T i):=hokI.imp (fun⟨h1,h2⟩=>⟨h1,fun w=>h2 w (fun h=>by rw[hX]at h;cases h)⟩) id;exact⟨hY.of_same he hwt,rfl⟩|some x=>
     cases x with
     |inl x=>simp only[hk]at hokI;rw[hokI.2.1]at hfl;cases hfl
     |inr φ=>simp only[hk]at hokI;rw[hokI.2.1]at hfl;cases hfl
   have hun:zfF n listed=zfF n (listed.setIfInBounds i true)+1:=zyS hi (hsz i hi) hu
   have hset:∀j,(listed.setIfInBounds i true).getD j false=true↔listed.getD j false=true∨j=i:=fun j=>by
    by_cases hji:j=i
    ·subst hji;simp[hsz j hi]
    ·rw[getD_set_ne false (Ne.symm hji)];simp[hji]
   have M':Mid P ops n Φ w0 a0 (listed.setIfInBounds i true) (a.put oi.dst (C i)) w vs C T:=
    { size:=by simp[M.size]
      closed:=fun k ok hk hl hok' j hj=>by
       rcases(hset k).1 hl with h|rfl
       ·exact getD_set_true (M.closed k ok hk h hok' j hj)
       ·have:oi=ok:=Option.some.inj (hoi.symm.trans hok');subst this;exact getD_set_true (hdep j hj)
      tail:=fun t ht hts=>by rw[getD_set_ne false (by omega)];exact M.tail t ht hts
      run:=M.run
      frame:=(M.frame.put S hi hoi (by rw[hu];simp)).congrL fun j _=>(hset j).symm
      world:=M.world
      facts:=fun j hj hl=>by
       rcases(hset j).1 hl with h|rfl
       ·exact M.facts j hj h
       ·unfold ziI;rw[hy.2];trivial
      foot:=fun j hj hl hrr b hb=>by
       rcases(hset j).1 hl with h|rfl
       ·exact M.foot j hj h hrr b hb
       ·exact absurd hrr (by rw[yaA (fun φ e=>by rw[hy.2]at e;cases e)];simp)
      apart:=fun j k hj hk hjk hlj hlk=>by
       have hnr:relK Φ i=false:=yaA (fun φ e=>by rw[hy.2]at e;cases e);rcases(hset j).1 hlj with h|rfl
       ·rcases(hset k).1 hlk with h'|rfl
        ·exact M.apart j k hj hk hjk h h'
        ·exact .no_r hnr
       ·exact .no_l hnr }
   refine wpAny_first hoi (Region.noSelect_spec S.sel) (fun _ _ _ h=>h) _ listed a w ?_ hri hy.1 (ybR hX S hall hend m _ _ _ _ _ _ (by omega) M');intro j oj hoj hne hju hno;refine Region.free_spec hoi (S.free i hi hfl) j oj hoj hne ?_ hno;have hjs:j<ops.size:=(aR.1 hoj).1;have hju':listed.getD j false=false:=by rw[<-zlY (by rw[M.size];exact hjs)];exact hju
   simp only[gJ,Array.getElem?_map,Array.getElem?_range,hjs,if_true,Option.map_some,Option.getD_some,Bool.and_eq_false_iff,decide_eq_false_iff_not,Bool.or_eq_false_iff,iK];by_cases hjn:j<n
   ·right;have h1:zgT ops n j=true:=by
     cases h:zgT ops n j with
     |true=>rfl|false=>exact absurd ⟨j,hjn,hju',h⟩ hnf
    refine⟨h1,fun hlt=>?_⟩;rw[hleast j hlt]at hju';cases hju'
   ·exact .inl hjn
end
def RegAny(P:Program)(l:List Oper)(Q:Exit->Act->World->Prop)(a:Act)(w:World):Prop:=wpAny P .any l.toArray (OnlyNormal Q) l.toArray.size (eZ l.toArray.size false) a w.drew
theorem RegAny.wp{P:Program}{id:Nat}{l:List Oper}{Q:Exit->Act->World->Prop}{a:Act}{w:World}(hm:P.follows .mixedOrders=true)(h:RegAny P l Q a w):(Code.region id l.toArray true).wp P Q a w:=
 Code.wp_mono OnlyNormal.imp (wp_region_any hm h)
theorem any_ext{P:Program}{l:List Oper}{Q:Exit->Act->World->Prop}{a:Act}{w:World}(n:Nat)(Φ:zhT)(hX:(Φ xm).isSome=false)(hB:extB l.toArray n=true) (h:∀vs,wpT P l.toArray n Φ w.drew vs (fun a'=>∀w',Ext w.drew w'->zjQ Φ vs w' (cU n)->Apart l.toArray n Φ vs->wpList P l.toArray (OnlyNormal Q) (l.drop n) a' w') 0 (l.take n) a):
  RegAny P l Q a w:=by
 have S:=extS_of hB;unfold RegAny;have hle:n<=l.length:=by simpa using S.le
 have hlen:(l.take n).length=n:=by simp[hle]
 have hget:∀j o,(l.take n)[j]? = some o->l.toArray[0+j]? = some o:=fun j o hj=>by
  rw[aU,List.getElem?_toArray];rw[List.getElem?_take]at hj;split at hj
  ·exact hj
  ·cases hj
 have hall:∀vs,∃C T,TRun P l.toArray n Φ w.drew a vs C T/\∀w',Ext w.drew w'->zjQ Φ vs w' (cU n)->Apart l.toArray n Φ vs->wpList P l.toArray (OnlyNormal Q) (l.drop n) (T n) w':=fun vs=>by obtain⟨C,T,hT,hst,hF⟩:=yzF (l.take n) 0 a hget (h vs);rw[hlen,aU]at hF;exact⟨C,T,⟨hT,fun i hi=>hst i (bS _) (by rw[hlen];omega)⟩,hF⟩
 have hall':∀vs,∃C T,TRun P l.toArray n Φ w.drew a vs C T:=fun vs=>let⟨C,T,R,_⟩:=hall vs;⟨C,T,R⟩;have hfalse:∀j,(eZ l.toArray.size false).getD j false=false:=fun j=>getD_replicate_false _ _;obtain⟨C,T,R⟩:=hall' (fun _=>⟨undef,fun _=>false⟩)
 have M0:Mid P l.toArray n Φ w.drew a (eZ l.toArray.size false) a w.drew (fun _=>⟨undef,fun _=>false⟩) C T:=
  ⟨by simp,fun i oi _ hl=>(by rw[hfalse]at hl;cases hl),fun t _ _=>hfalse t,R,
   ⟨rfl,fun _ _=>rfl,fun j oj t _ hl=>(by rw[hfalse]at hl;cases hl)⟩,Ext.refl _,fun j _ hl=>(by rw[hfalse]at hl;cases hl),fun j _ hl=>(by rw[hfalse]at hl;cases hl),fun j _ _ _ _ hl=>(by rw[hfalse]at hl;cases hl)⟩
 have hcount:zfF n (eZ l.toArray.size false)=n:=by unfold zfF;rw[List.countP_eq_length.2 (fun j _=>by rw[hfalse];rfl)];simp
 have:=ybR (Q:=Q) hX S hall' (fun listed a' w' vs C T M hz=>?_) n _ a w.drew _ C T hcount M0
 ·have e:n+(l.toArray.size-n)=l.toArray.size:=by have:=S.le;omega
  rw[e]at this;exact this
 ·-- the tail
  obtain⟨C',T',R',hF⟩:=hall vs
  have hlist:listed=(fC l.toArray.size).map fun j=>decide (j<n):=by
   apply Array.ext (by simp[M.size]);intro i h1 h2;have hi:i<l.toArray.size:=by rw[<-M.size];exact h1
   have e1:listed.getD i false=listed[i]:=by simp[h1]
   simp only[Array.getElem_map,Array.getElem_range];by_cases hin:i<n
   ·rw[<-e1,zsA hz i hin];simp[hin]
   ·rw[<-e1,M.tail i (by omega) hi];simp[hin]
  have hag:=TRun.agree S M.run R' (L:=fun j=>listed.getD j false=true) M.world M.closed (fun _ _ _=>rfl) M.facts M.facts;have hfr:Holds l.toArray n a a' C' (fun j=>j<n):=(M.frame.congrC hag).congrL fun j hj=>⟨fun _=>hj,fun _=>zsA hz j hj⟩;have haT:a'=T' n:=hfr.eq (R'.holds S n (aK _));rw[haT]
  have htl:=hF w' M.world (zvF.2 fun j hj=>M.facts j (cQ.1 hj) (zsA hz j (cQ.1 hj)))
   (fun j k hj hk hjk=>M.apart j k hj hk hjk (zsA hz j hj) (zsA hz k hk))
  have hseq:=S.seq;rw[<-hlist]at hseq;have hdl:(l.drop n).length=l.toArray.size-n:=by simp
  rw[<-hdl]at hseq ⊢;exact wpAny_of_seq (l.drop n) n listed (T' n) w' (fun j=>by simp[List.getElem?_drop]) hseq htl
theorem zwS{P:Program}{id:Nat}{l:List Oper}{Q:Exit->Act->World->Prop}{a:Act}{w:World}(n:Nat)(Φ:zhT)(hX:(Φ xm).isSome=false)(hm:P.follows .mixedOrders=true)(hB:extB l.toArray n=true) (h:∀vs,wpT P l.toArray n Φ w.drew vs (fun a'=>∀w',Ext w.drew w'->zjQ Φ vs w' (cU n)->Apart l.toArray n Φ vs->wpList P l.toArray (OnlyNormal Q) (l.drop n) a' w') 0 (l.take n) a):(Code.region id l.toArray true).wp P Q a w:=(any_ext n Φ hX hB h).wp hm
end
section
theorem ynP{Q:Exit->Act->World->Prop}{a:Act}{w:World}(h:Q .normal a w):OnlyNormal Q .normal a w:=h
def lowR(φ:Value->World->Prop):Gv->World->Prop:=fun g w=>φ g.v w/\∀b,¬g.f b
def lowK:Sum Value (Value->World->Prop)->Sum Value (Gv->World->Prop)
 |.inl c=>.inl c|.inr φ=>.inr (lowR φ)
def kinds(l:List (Nat×Sum Value (Value->World->Prop))):zhT:=fun k=>(l.find? fun p=>p.1==k).map fun p=>lowK p.2
section
variable {P:Program}{ops:Array Oper}{n:Nat}{Φ:zhT}{w0:World}{vs:Nat->Gv}{Fin:Act->Prop}{k:Nat}{o:Oper}{rest:List Oper}{a:Act}
theorem wpT_pure{c:Value}(hk:Φ k=none)(hfl:zgT ops n k=false)(hw:Region.wanted o (yielded ops a.tmps)=true) (h:∀w,Ext w0 w->zjQ Φ vs w (zfH o)->(execOp a.eval o).run P w = .ok (.value c) w) (hr:wpT P ops n Φ w0 vs Fin (k+1) rest (a.put o.dst c)):
  wpT P ops n Φ w0 vs Fin k (o::rest) a:=by
 unfold wpT;simp only[hk];refine⟨c,?_,hr⟩;unfold ykN;rw[zH (by simp[hfl])];exact .inl ⟨hw,h⟩
theorem wpT_rel{φ:Gv->World->Prop}(hk:Φ k=some (.inr φ))(hfl:zgT ops n k=false)(hs:∀v w w',φ v w->Ext w w'->φ v w')(hw:Region.wanted o (yielded ops a.tmps)=true) (ho:yjQ o=true->∀g w,φ g w->Old w g.v/\∀b,¬g.f b) (h:∀w,Ext w0 w->zjQ Φ vs w (zfH o)->∀R:Value->World->Prop,(∀g w',Ext w w'->φ g w'->made Φ vs o w g w'->(yjQ o=true->¬Old w g.v)->R g.v w')->outcome P R ((execOp a.eval o).run P w)) (hr:wpT P ops n Φ w0 vs Fin (k+1) rest (a.put o.dst (vs k).v)):wpT P ops n Φ w0 vs Fin k (o::rest) a:=by unfold wpT;simp only[hk];refine⟨hfl,hs,ho,?_,hr⟩;unfold yiD;rw[zI hw];exact h
theorem wpT_low{φ:Value->World->Prop}(hk:Φ k=some (.inr (lowR φ)))(hfl:zgT ops n k=false)(hs:∀v w w',φ v w->Ext w w'->φ v w')(hw:Region.wanted o (yielded ops a.tmps)=true) (ho:yjQ o=true->∀v w,φ v w->Old w v) (h:∀w,Ext w0 w->zjQ Φ vs w (zfH o)->∀R:Value->World->Prop,(∀v w',Ext w w'->φ v w'->(yjQ o=true->¬Old w v)->R v w')->outcome P R ((execOp a.eval o).run P w)) (hr:wpT P ops n Φ w0 vs Fin (k+1) rest (a.put o.dst (vs k).v)):wpT P ops n Φ w0 vs Fin k (o::rest) a:=
 wpT_rel hk hfl (fun _ _ _ h hx=>⟨hs _ _ _ h.1 hx,h.2⟩) hw (fun hn _ _ h=>⟨ho hn _ _ h.1,h.2⟩)
  (fun w hx hf R hR=>h w hx hf R fun v w' hx' hv hn=>hR ⟨v,fun _=>false⟩ w' hx' ⟨hv,fun _ h=>absurd h gN⟩ (fun _ h=>absurd h gN) hn) hr
end
theorem ykX{Φ:zhT}{vs:Nat->Gv}{w:World}{l:List Nat}(h:zjQ Φ vs w l)(j:Nat)(hj:l.contains j=true):ziI Φ vs w j:=
 zvF.1 h j (by simpa using hj)
theorem yoJ{Φ:zhT}{vs:Nat->Gv}{w:World}{l:List Nat}(h:zjQ Φ vs w l)(j:Nat){φ:Gv->World->Prop}(hk:Φ j=some (.inr φ))(hj:l.contains j=true):φ (vs j) w:=by have:=ykX h j hj;unfold ziI at this;rw[hk]at this;exact this
theorem fact_rel{Φ:zhT}{vs:Nat->Gv}{w:World}{l:List Nat}(h:zjQ Φ vs w l)(j:Nat){φ:Value->World->Prop}(hk:Φ j=some (.inr (lowR φ)))(hj:l.contains j=true):φ (vs j).v w:=(yoJ h j hk hj).1
theorem Ext.cells{w w':World}(h:Ext w w'):(∀b o,b<w.heap.size->w'.cell? ⟨b,o,none⟩=w.cell? ⟨b,o,none⟩)/\(∀b o,b<w.heap.size->w'.frozen? ⟨b,o,none⟩=w.frozen? ⟨b,o,none⟩):=
 ⟨fun b o hb=>Below.cell (p:=⟨b,o,none⟩) h hb,fun b o hb=>Below.frozen (p:=⟨b,o,none⟩) h hb⟩
theorem Ext.below{B:Nat}{w w':World}(h:Ext w w')(hB:B<=w.heap.size):Below B w w':=Below.mono h hB
end
abbrev FM:=List (Nat×Value)
def look:FM->Nat->Value
 |[],_=>undef|(d,v)::m,t=>bif Nat.beq d t then v else look m t
def fr(n:Nat)(m:FM):Act:={ tmps:=iU (n:=n) fun i=>look m i.val,defers:=[] }
def evO(n:Nat)(m:FM):Operand->Value
 |.tmp t=>bif cM t n then look m t else undef
 |.const v=>v|.global g=>.pointer (some ⟨g,0,none⟩)|.func f=>.func (.func f) #[] #[]
theorem zmU{a b:Nat}:cM a b=decide (a<b):=by rw[dX];simp[cM,Nat.succ_le_iff,Nat.ble_eq]
theorem zqR{a b:Nat}:Nat.beq a b=decide (a=b):=by rw[dX];simp
theorem zmS(n:Nat)(m:FM):(fr n m).eval=evO n m:=by
 funext x;cases x with
 |tmp t=>
  simp only[Act.eval,fr,evO,zmU];by_cases h:t<n
  ·simp[h]
  ·simp[h]
 |_=>rfl
theorem yfA(n:Nat)(m:FM)(d:Nat)(v:Value):(fr n m).put (some d) v=fr n ((d,v)::m):=by
 have e:(iU (n:=n) fun i=>look m i.val).setIfInBounds d v=iU (n:=n) fun i=>look ((d,v)::m) i.val:=by apply fL;intro i;simp only[Array.getElem?_setIfInBounds,iG,look,zqR,Array.size_ofFn];by_cases h:d=i<;>by_cases hi:i<n<;>simp_all
 simp only[fr,Act.put,e]
theorem yiJ(n:Nat)(m:FM)(v:Value):(fr n m).put none v=fr n m:=rfl
theorem tmps_fr(n:Nat)(m:FM)(t:Nat):(fr n m).tmps[t]? = if t<n then some (look m t)else none:=by simp[fr,iG]
theorem xaV(n:Nat)(m:FM)(t:Nat):(fr n m).tmps.getD t undef=evO n m (.tmp t):=by rw[<-zmS];rfl
def argm:LV->Nat->FM
 |[],_=>[]|v::l,i=>(i,v)::argm l (i+1)
theorem xeA(l:LV):∀(i t:Nat),look (argm l i) t=if i<=t then l.getD (t-i) undef else undef:=by
 induction l with
 |nil=>intro i t;simp[argm,look]|cons v l ih=>
  intro i t;simp only[argm,look,zqR,ih];by_cases h:i=t
  ·subst h;simp
  ·by_cases h2:i<=t
   ·have e:t-i=(t-(i+1))+1:=by omega
    simp[h,h2,show i+1<=t by omega,e]
   ·simp[h,h2,show ¬i+1<=t by omega]
theorem enter{P:Program}{f:FuncId}{fn:Func}{c:Code}{n:Nat}{args:LV}{w:World}{R:Ending->World->Prop} (hf:P.funcs[f]? = some fn) (hb:fn.body=some c) (hn:fn.ntmps=n) (hl:Nat.ble args.length n=true) (h:c.wp P (bodyPost P fn R) (fr n (argm args 0)) w):Calls P f args.toArray w R:=by
 refine calls_of_wp hf hb ?_;have hl':args.length<=n:=Nat.le_of_ble_eq_true hl;have e:({ tmps:=args.toArray++eZ (fn.ntmps-args.toArray.size) undef,defers:=[] }:Act)=fr n (argm args 0):=by
  unfold fr;congr 1;apply Array.ext
  ·simp[hn];omega
  ·intro i h1 h2;simp only[Array.getElem_append,Array.getElem_replicate,Array.getElem_ofFn,xeA,bS,if_true,Nat.sub_zero];by_cases hi:i<args.length
   ·simp[hi,List.getD]
   ·simp[hi,List.getD]
 rw[e];exact h
abbrev Ent:=Nat×LV×TypeId
def lk:List Ent->Nat->Option Ent
 |[],_=>none|e::_,0=>some e|_::l,k+1=>lk l k
def st:List Ent->Nat->Ent->List Ent
 |[],_,_=>[]|_::l,0,e=>e::l|x::l,k+1,e=>x::st l k e
theorem zuV{e:Ent}:∀{l:List Ent} {k:Nat} {x:Ent},lk l k=some x->lk (st l k e) k=some e
 |[],_,_,h=>by cases h
 |_::_,0,_,_=>rfl|_::l,k+1,_,h=>zuV (l:=l) (k:=k) h
theorem zsL{e:Ent}:∀{l:List Ent} {k j:Nat},j≠k->lk (st l k e) j=lk l j
 |[],_,_,_=>rfl|_::_,0,0,h=>absurd rfl h|_::_,0,_+1,_=>rfl|_::_,_+1,0,_=>rfl|_::l,k+1,j+1,h=>zsL (l:=l) (by omega)
structure HP (w0 w:World) (L:List Ent):Prop where
 below:Below w0.heap.size w0 w
 blk:∀k b cs T,lk L k=some (b,cs,T)->w.heap[b]? = some (.cells cs.toArray T (0,0))/\w0.heap.size<=b
 inj:∀i j b cs T cs' T',lk L i=some (b,cs,T)->lk L j=some (b,cs',T')->i=j
theorem zhJ{w:World}{b:Nat}{o:Obj}(h:w.heap[b]? = some o):b<w.heap.size:=by
 rcases Nat.lt_or_ge b w.heap.size with h'|h'
 ·exact h'
 ·simp[fQ h']at h
theorem HP.start(w:World):HP w w []:=⟨Below.refl _ _,fun _ _ _ _ h=>(by cases h),fun _ _ _ _ _ _ _ h=>(by cases h)⟩
theorem HP.ext{w0 w w':World}{L:List Ent}(h:HP w0 w L)(hx:Ext w w'):HP w0 w' L:=
 ⟨h.below.trans (Below.mono hx h.below.size),fun k b cs T hk=>by
  obtain⟨h1,h2⟩:=h.blk k b cs T hk
  exact⟨by rw[Below.block hx b (zhJ h1)];exact h1,h2⟩,h.inj⟩
theorem Ext.drew(w:World):Ext w w.drew:=Below.drew (Below.refl _ _)
theorem Ext.alloc(w:World)(o:Obj):Ext w (w.alloc o):=Below.alloc (Below.refl _ _) (aK _) o
theorem HP.drew{w0 w:World}{L:List Ent}(h:HP w0 w L):HP w0 w.drew L:=h.ext (Ext.drew w)
theorem zaL(w:World)(o:Obj):(w.alloc o).heap[w.heap.size]? = some o:=by show(w.heap.push o)[w.heap.size]? = _;simp
theorem HP.push{w0 w w':World}{L:List Ent}{b:Nat}{cs:LV}{T:TypeId}(h:HP w0 w L)(hx:Ext w w')(hb:w.heap.size<=b)(hh:w'.heap[b]? = some (.cells cs.toArray T (0,0))):
  HP w0 w' ((b,cs,T)::L):=by
 have h':=h.ext hx;refine⟨h'.below,?_,?_⟩
 ·intro k b' cs' T' hk;cases k with
  |zero=>simp only[lk,Option.some.injEq,Prod.mk.injEq]at hk;obtain⟨rfl,rfl,rfl⟩:=hk;exact⟨hh,aY h.below.size hb⟩
  |succ k=>exact h'.blk k b' cs' T' hk
 ·intro i j b' cs1 T1 cs2 T2 hi hj;cases i with
  |zero=>
   cases j with
   |zero=>rfl|succ j=>simp only[lk,Option.some.injEq,Prod.mk.injEq]at hi;obtain⟨rfl,_,_⟩:=hi;have:=zhJ (h.blk j b cs2 T2 hj).1;omega
  |succ i=>
   cases j with
   |zero=>simp only[lk,Option.some.injEq,Prod.mk.injEq]at hj;obtain⟨rfl,_,_⟩:=hj;have:=zhJ (h.blk i b cs1 T1 hi).1;omega
   |succ j=>rw[h.inj i j b' cs1 T1 cs2 T2 hi hj]
theorem HP.alloc{w0 w:World}{L:List Ent}(h:HP w0 w L)(cs:LV)(T:TypeId):HP w0 (w.alloc (.cells cs.toArray T)) ((w.heap.size,cs,T)::L):=
 h.push (Ext.alloc w _) (aK _) (zaL w _)
theorem HP.set{w0 w w':World}{L:List Ent}{k b:Nat}{cs cs':LV}{T:TypeId}(h:HP w0 w L)(hk:lk L k=some (b,cs,T))(hsz:w'.heap.size=w.heap.size)(hos:w'.os=w.os)(htp:w'.tape=w.tape)(hop:w'.output=w.output) (hb:w'.heap[b]? = some (.cells cs'.toArray T (0,0))) (ho:∀i,i≠b->w'.heap[i]? = w.heap[i]?):HP w0 w' (st L k (b,cs',T)):=by
 have hB:=(h.blk k b cs T hk).2;refine⟨⟨hos.trans h.below.os,htp.trans h.below.tape,hop.trans h.below.output,by rw[hsz];exact h.below.size,fun i hi=>by rw[ho i (by omega)];exact h.below.block i hi⟩,?_,?_⟩
 ·intro j b' c T' hj;by_cases hjk:j=k
  ·subst hjk;rw[zuV hk]at hj;simp only[Option.some.injEq,Prod.mk.injEq]at hj;obtain⟨rfl,rfl,rfl⟩:=hj;exact⟨hb,hB⟩
  ·rw[zsL hjk]at hj;obtain⟨h1,h2⟩:=h.blk j b' c T' hj;have hne:b'≠b:=fun e=>hjk (h.inj j k b' c T' cs T hj (e▸hk));exact⟨by rw[ho b' hne];exact h1,h2⟩
 ·intro i j b' c1 T1 c2 T2 hi hj
  have key:∀i c T1,lk (st L k (b,cs',T)) i=some (b',c,T1)->∃c2 T2,lk L i=some (b',c2,T2):=fun i c T1 hi=>by
   by_cases hik:i=k
   ·subst hik;rw[zuV hk]at hi;simp only[Option.some.injEq,Prod.mk.injEq]at hi;exact⟨cs,T,hi.1▸hk⟩
   ·rw[zsL hik]at hi;exact⟨_,_,hi⟩
  obtain⟨x,y,hx⟩:=key i _ _ hi;obtain⟨x',y',hx'⟩:=key j _ _ hj;exact h.inj i j b' x y x' y' hx hx'
theorem yiX:∀(N L:List Ent) (k:Nat),lk (N++L) k=if k<N.length then lk N k else lk L (k-N.length)
 |[],L,k=>by simp
 |e::N,L,0=>rfl|e::N,L,k+1=>by rw[List.cons_append,lk,yiX N L k,lk];simp only[aS,Nat.add_lt_add_iff_right,iD]
theorem HP.join{w0 W w:World}{L N:List Ent}(h:HP w0 W L)(k:HP W w N):HP w0 w (N++L):=by
 refine⟨Below.trans h.below (k.below.mono h.below.size),fun j b cs T hj=>?_,fun i j b c1 T1 c2 T2 hi hj=>?_⟩
 ·rw[yiX]at hj;split at hj
  ·have:=k.blk j b cs T hj;exact⟨this.1,aY h.below.size this.2⟩
  ·have h1:=h.blk _ b cs T hj;exact⟨by rw[k.below.block b (zhJ h1.1)];exact h1.1,h1.2⟩
 ·rw[yiX]at hi hj;split at hi<;>split at hj
  ·exact k.inj i j b c1 T1 c2 T2 hi hj
  ·have h1:=(k.blk i b c1 T1 hi).2;have h2:=zhJ (h.blk _ b c2 T2 hj).1;omega
  ·have h1:=(k.blk j b c2 T2 hj).2;have h2:=zhJ (h.blk _ b c1 T1 hi).1;omega
  ·have:=h.inj _ _ b c1 T1 c2 T2 hi hj;omega
theorem HP.tail{w0 w:World}{e:Ent}{L:List Ent}(h:HP w0 w (e::L)):HP w0 w L:=
 ⟨h.below,fun k=>h.blk (k+1),fun i j b cs T cs' T' hi hj=>by have:=h.inj (i+1) (j+1) b cs T cs' T' hi hj;omega⟩
theorem HP.nil{w0 w:World}{L:List Ent}(h:HP w0 w L):HP w0 w []:=⟨h.below,fun _ _ _ _ h=>(by cases h),fun _ _ _ _ _ _ _ h=>(by cases h)⟩
def piece:LV->Nat->Nat->LV
 |_,_,0=>[]|[],_,_+1=>[]|v::l,0,n+1=>v::piece l 0 n|_::l,o+1,n+1=>piece l o (n+1)
def lay:LV->Nat->LV->LV
 |l,_,[]=>l|[],_,_=>[]|_::l,0,x::xs=>x::lay l 0 xs|v::l,o+1,x::xs=>v::lay l o (x::xs)
theorem zaS:∀(l:LV) (o n:Nat),piece l o n=(l.drop o).take n
 |_,_,0=>by simp[piece]
 |[],_,_+1=>by simp[piece]
 |v::l,0,n+1=>by simp[piece,zaS l 0 n]
 |_::l,o+1,n+1=>by simp[piece,zaS l o (n+1)]
theorem zbN:∀(l:LV) (o:Nat) (xs:LV),(lay l o xs).length=l.length
 |l,_,[]=>by cases l<;>simp[lay]
 |[],_,_::_=>by simp[lay]
 |_::l,0,x::xs=>by simp[lay,zbN l 0 xs]
 |v::l,o+1,x::xs=>by simp[lay,zbN l o (x::xs)]
theorem zcN:∀(l:LV) (o:Nat) (xs:LV) (i:Nat),(lay l o xs)[i]? = if o<=i/\i<o+xs.length/\i<l.length then xs[i-o]? else l[i]?
 |l,o,[],i=>by
  have:lay l o []=l:=by cases l<;>rfl
  rw[this,zH (by simp;omega)]
 |[],o,_::_,i=>by simp[lay]
 |v::l,0,x::xs,i=>by
  cases i with
  |zero=>simp[lay]|succ i=>
   have:=zcN l 0 xs i;simp only[lay,bU,this,bS,true_and,aS,Nat.sub_zero];by_cases h:i<0+xs.length/\i<l.length
   ·rw[zI h,zI (by omega)]
   ·rw[zH h,zH (by omega)]
 |v::l,o+1,x::xs,i=>by
  cases i with
  |zero=>simp[lay]|succ i=>
   have:=zcN l o (x::xs) i;simp only[lay,bU,this,aS,iD];by_cases h:o<=i/\i<o+(xs.length+1)/\i<l.length
   ·rw[zI h,zI (by omega)]
   ·rw[zH h,zH (by omega)]
def TAgg(P:Program)(T:TypeId)(sz:Nat):Prop:=(∀w,(isAgg T).run P w = .ok true w)/\(∀w,(sizeOf T).run P w = .ok sz w)
def TOne(P:Program)(T:TypeId):Prop:=(∀w,(isAgg T).run P w = .ok false w)/\(∀w,(sizeOf T).run P w = .ok 1 w)
def ysV(P:Program)(T:TypeId)(z:Value):Prop:=∀w,(zeroValue T).run P w = .ok z w
theorem zbY(b o i:Nat):((⟨b,o,none⟩:Addr).add i)=⟨b,o+i,none⟩:=by simp[Addr.add]
section runs
variable {P:Program}{w:World}
theorem run_box(T:TypeId)(v:Value):(Instr.box T v).run P w = .ok (.pointer (some ⟨w.heap.size,0,none⟩)) (w.alloc (.cells v.cells T)):=by simp[Instr.box,newVar,newRow]
theorem ykW{T:TypeId}{z:Value}(hz:ysV P T z):(Instr.alloc T true (.tuple #[])).run P w = .ok (.pointer (some ⟨w.heap.size,0,none⟩)) (w.alloc (.cells z.cells T)):=by simp[Instr.alloc,hz w,newVar,newRow]
theorem ybX{b:Nat}{cs:LV}{T:TypeId}{fz:Nat×Nat}(h:w.heap[b]? = some (.cells cs.toArray T fz))(i:Nat):w.cell? ⟨b,i,none⟩=cs[i]?:=by simp[World.cell?,h]
end runs
end Go.Proofs.YtopanhneegpgcaaGreatDoor
