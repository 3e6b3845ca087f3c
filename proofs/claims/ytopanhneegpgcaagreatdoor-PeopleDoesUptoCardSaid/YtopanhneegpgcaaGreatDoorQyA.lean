/- Parts of one proof. Conditions: as each theorem says. -/
import Derived.Shelf.Strings.Builder1
import Derived.Shelf.Strings.Trim
import Derived.Shelf.Small.Utf8
import Derived.Shelf.Small.Bits
import Derived.Shelf.Small.Strs
import Derived.Shelf.Strings.BuilderF
import Derived.Shelf.Strings.BuilderK
import Derived.Shelf.Strconv.Atoi
import Derived.Shelf.Strconv.Itoa0
import Derived.Shelf.Strconv.Itoa1
import Derived.Shelf.LaysM
import Derived.Shelf.Strconv.Itoa2
import Derived.Shelf.Strconv.Itoa3
import Derived.Shelf.Strconv.AtoiErrFast
import Derived.Shelf.Strconv.ParseIntEmpty
import Derived.Shelf.Strconv.AtoiFail
import Derived.Shelf.Strconv.Clone
import Derived.Shelf.Strconv.SyntaxError
import Derived.Shelf.LaysC
import Derived.Shelf.Strconv.ToError
import Derived.Shelf.Strconv.Lower
import Derived.Shelf.Strconv.ParseUint10
import Derived.Shelf.Strconv.ParseUint10Empty
import Derived.Shelf.Strconv.ParseUint10Any
import Derived.Shelf.Strconv.ParseInt10
import Derived.Shelf.Strconv.AtoiLong
import Derived.Shelf.Strconv.AtoiInnerAll
import Derived.Shelf.Strconv.RangeError
import Derived.Shelf.Strconv.ToErrorRange
import Derived.Shelf.Strconv.AtoiAll
import Derived.Shelf.Strings.Search1
import Derived.Shelf.Strings.Search2
import Derived.Shelf.Strings.Cut
import Derived.Shelf.Strings.Shaped
import Derived.Shelf.Unicode.Decode
import Derived.Shelf.Strings.Runes
import Derived.Shelf.Strings.AsciiSet
import Derived.Shelf.Unicode.DecodeSlow
import Derived.Shelf.Unicode.DecodeAny
import Derived.Shelf.Unicode.DecodeLast
import Derived.Ground.Names2Prog
import Derived.Shelf.Slices.ReverseS
import Derived.Shelf.Slices.Clone
import Derived.Shelf.Slices.CompactS
import Derived.Shelf.Slices.Cells
import Derived.Ground.SlgnProg
import Derived.Shelf.SlicesE.Compact
import Derived.Shelf.SlicesE.Clone
import Derived.Ground.SlgfProg
import Derived.Shelf.SlicesE.IndexFunc
import Derived.Shelf.SlicesE.DeleteFunc
import Derived.Ground.SlgmProg
import Derived.Shelf.SortM.Plain
import Derived.Shelf.SortM.SortNone
import Derived.Test.YtopanhneegpgcaaGreatDoorProg
import Derived.StillTail
import Derived.Below
import Derived.KernelRfl
import Derived.WalkKit
open Array renaming ext_getElem?->gJ,getD_eq_getD_getElem?->iG,getElem?_eq_none->gO,getElem?_eq_some_iff->aT,getElem?_ofFn->jA,ofFn->jO,range->fU,replicate->fQ
open Bool renaming and_eq_true->aI,eq_iff_iff->dS,false_ne_true->iJ,not_eq_false'->jE,or_eq_true->cH
open List renaming all_eq_true->bR,contains_eq_mem->cI,countP_cons->gP,countP_eq_zero->iD,getElem?_cons_succ->cD,length_cons->aQ,mem_range->dF,range->dJ,replicate->bI
open Nat renaming add_sub_add_right->iX,blt->cY,le_refl->aL,le_trans->bB,lt_of_lt_of_le->cQ,lt_or_ge->fK,zero_add->aV,zero_le->bG
open Option renaming bind_some->eO
open Go.Proofs.Tryz renaming prog->aA
open Go.Lib renaming compact->QY
open Go.Region renaming noSelect_spec->AI,wanted->p9
open Go.Proofs.Tryz renaming func212->F8,func258->F3,func280->N3,func281->N5,func282->N4,func316->N6,func68->H6,isAgg0->B0,isAgg20->D5,isAgg201->C6,isAgg22->B8,isAgg247->E9,isAgg249->F5,isAgg25->D1,isAgg3->B4,isAgg4->A1,isAgg5->C2,isAgg9->A5,sizeOf0->B1,sizeOf20->D7,sizeOf201->C7,sizeOf22->B9,sizeOf247->F0,sizeOf249->F6,sizeOf25->D2,sizeOf3->B5,sizeOf4->A3,sizeOf5->C3,sizeOf9->A6,underlying0->A9,underlying20->D4,underlying201->C5,underlying22->B7,underlying247->D9,underlying249->F4,underlying25->C9,underlying3->B3,underlying4->A0,underlying5->C1,underlying9->A8,zeroValue0->B2,zeroValue20->D8,zeroValue201->C8,zeroValue22->C0,zeroValue247->F1,zeroValue249->F7,zeroValue25->D3,zeroValue3->B6,zeroValue4->A4,zeroValue5->C4,zeroValue9->A7
open Go.Proofs.Tryz
namespace Go.Proofs
theorem _root_.Go.Proofs.zA{p:Prop}[Decidable p](h:p):decide p=true:=decide_eq_true h
theorem _root_.Go.Proofs.zB{p:Prop}[Decidable p](h:¬p):decide p=false:=decide_eq_false h
theorem _root_.Go.Proofs.zD{p:Prop}[Decidable p](h:decide p=true):p:=of_decide_eq_true h
theorem _root_.Go.Proofs.zE{p:Prop}[Decidable p]:(decide p=true)=p:=decide_eq_true_eq
theorem _root_.Go.Proofs.zF{c:Sort _}(a b:c):cond true a b=a:=rfl
theorem _root_.Go.Proofs.zH{c:Sort _}(a b:c):cond false a b=b:=rfl
theorem _root_.Go.Proofs.zI{c:Prop}{h:Decidable c}(k:¬c){b:Sort _}{t e:b}:ite c t e=e:=if_neg k
theorem _root_.Go.Proofs.zJ{c:Prop}{h:Decidable c}(k:c){b:Sort _}{t e:b}:ite c t e=t:=if_pos k
open Go.Shelf
def Tryz.sh:Go.Shelf.Ren:=⟨fun|160=>164|232=>232|231=>231|227=>233|234=>235|233=>234|236=>237|235=>236|228=>284|271=>287|151=>286|197=>285|120=>320|152=>319|260=>318|137=>334|119=>335|224=>282|225=>281|217=>280|266=>316|n=>n,fun|9=>9|4=>4|3=>3|5=>5|117=>228|116=>227|0=>0|124=>231|21=>21|105=>261|46=>201|119=>307|139=>310|138=>309|n=>n,fun|3=>4|4=>5|n=>n⟩
theorem _root_.Go.Proofs.U0{c:Type}{o:Option c}{a b:c}(h:o=some a)(e:a=b:=by kernel_rfl):o=some b:=h.trans (congrArg some e)
theorem Tryz.oB:Go.Proofs.Lays.n160 aA Tryz.sh:={mixed:=by kernel_rfl,f119:=U0 func335,f120:=U0 func320,f137:=U0 func334,f151:=U0 func286,f152:=U0 func319,f160:=U0 func164,f197:=U0 func285,f217:=U0 N3,f224:=U0 N4,f225:=U0 N5,f227:=U0 func233,f228:=U0 func284,f231:=U0 func231,f232:=U0 func232,f233:=U0 func234,f234:=U0 func235,f235:=U0 func236,f236:=U0 func237,f260:=U0 func318,f266:=U0 N6,f271:=U0 func287,t0:=A9,a0:=B0,z0:=B1,v0:=B2,t3:=B3,a3:=B4,z3:=B5,v3:=B6,t4:=A0,a4:=A1,z4:=A3,v4:=A4,t5:=C1,a5:=C2,z5:=C3,v5:=C4,t9:=A8,a9:=A5,z9:=A6,v9:=A7,t21:=underlying21,a21:=isAgg21,z21:=sizeOf21,v21:=zeroValue21,t46:=C5,a46:=C6,z46:=C7,v46:=C8,t105:=underlying261,a105:=isAgg261,z105:=sizeOf261,v105:=zeroValue261,t116:=underlying227,a116:=isAgg227,z116:=sizeOf227,t117:=underlying228,a117:=isAgg228,z117:=sizeOf228,v117:=zeroValue228,t119:=underlying307,a119:=isAgg307,z119:=sizeOf307,t124:=underlying231,a124:=isAgg231,z124:=sizeOf231,v124:=zeroValue231,t138:=underlying309,a138:=isAgg309,z138:=sizeOf309,v138:=zeroValue309,t139:=underlying310,a139:=isAgg310,z139:=sizeOf310,v139:=zeroValue310,g3:=by kernel_rfl,g4:=by kernel_rfl }
def Tryz.th:Go.Shelf.Ren:=⟨fun|106=>90|213=>190|265=>259|n=>n,fun|9=>9|3=>3|n=>n,fun|n=>n⟩
theorem Tryz.pB:Go.Proofs.Lays.n106 aA Tryz.th:={mixed:=by kernel_rfl,f106:=U0 func90,f213:=U0 func190,f265:=U0 func259,t3:=B3,a3:=B4,z3:=B5,v3:=B6,t9:=A8,a9:=A5,z9:=A6,v9:=A7 }
open Go.RowKit in
theorem Tryz.strings_Compare(a b:ByteArray)(w:World):Calls aA 90 #[.string a,.string b] w fun e w'=>e = .returned (.int .i64 (Lib.compareBytes a.data.toList b.data.toList))/\w'=w:=Any.strings_Compare Tryz.pB a b w
def Tryz.Af:Go.Shelf.Ren:=⟨fun|171=>68|243=>168|246=>242|283=>293|284=>294|285=>295|286=>296|129=>258|317=>324|318=>325|319=>326|320=>327|337=>338|338=>339|n=>n,fun|3=>3|9=>9|2=>2|4=>4|171=>270|0=>0|53=>249|37=>102|5=>5|173=>272|212=>298|51=>247|20=>20|213=>299|46=>201|232=>316|233=>317|n=>n,fun|17=>3|18=>6|19=>7|n=>n⟩
theorem Tryz.lv:Go.Proofs.LaysM.n171 aA Tryz.Af:={mixed:=by kernel_rfl,f129:=U0 F3,f171:=U0 H6,f243:=U0 func168,f246:=U0 func242,f283:=U0 func293,f284:=U0 func294,f285:=U0 func295,f286:=U0 func296,f317:=U0 func324,f318:=U0 func325,f319:=U0 func326,f320:=U0 func327,f337:=U0 func338,f338:=U0 func339,t0:=A9,a0:=B0,z0:=B1,v0:=B2,t2:=underlying2,a2:=isAgg2,z2:=sizeOf2,v2:=zeroValue2,t3:=B3,a3:=B4,z3:=B5,v3:=B6,t4:=A0,a4:=A1,z4:=A3,v4:=A4,t5:=C1,a5:=C2,z5:=C3,v5:=C4,t9:=A8,a9:=A5,z9:=A6,v9:=A7,t20:=D4,a20:=D5,z20:=D7,v20:=D8,t37:=underlying102,a37:=isAgg102,z37:=sizeOf102,v37:=zeroValue102,t46:=C5,a46:=C6,z46:=C7,v46:=C8,t51:=D9,a51:=E9,z51:=F0,v51:=F1,t53:=F4,a53:=F5,z53:=F6,v53:=F7,t171:=underlying270,a171:=isAgg270,z171:=sizeOf270,v171:=zeroValue270,t173:=underlying272,a173:=isAgg272,z173:=sizeOf272,v173:=zeroValue272,t212:=underlying298,a212:=isAgg298,z212:=sizeOf298,v212:=zeroValue298,t213:=underlying299,a213:=isAgg299,z213:=sizeOf299,t232:=underlying316,a232:=isAgg316,z232:=sizeOf316,v232:=zeroValue316,t233:=underlying317,a233:=isAgg317,z233:=sizeOf317,v233:=zeroValue317,g17:=by kernel_rfl,g18:=by kernel_rfl,g19:=by kernel_rfl,i0:=by kernel_rfl,i2:=by kernel_rfl,i3:=by kernel_rfl,i4:=by kernel_rfl,i5:=by kernel_rfl,i9:=by kernel_rfl,i20:=by kernel_rfl,i37:=by kernel_rfl,i46:=by kernel_rfl,i51:=by kernel_rfl,i53:=by kernel_rfl,i171:=by kernel_rfl,i173:=by kernel_rfl,i212:=by kernel_rfl,i232:=by kernel_rfl,i233:=by kernel_rfl,m17:=by kernel_rfl,m18:=by kernel_rfl,m19:=by kernel_rfl }
open Go.RowKit Go.Sort Go.Lib in
theorem Tryz.strconv_Itoa (n : Int) (c : -9223372036854775808 <= n) (d : n <= 9223372036854775807) (w : World) (b : Lib.TabIs aA w "internal/strconv.uint64pow10" .u64 Lib.pow10Tab) :Calls aA 68 #[.int .i64 n] w fun e w'=>e = .returned (.string ⟨(Lib.itoa n).toArray⟩)/\∃k os,w'=grow (w.drewN k) os:=Any.strconv_Itoa Tryz.lv n c d w b
def Tryz.Bf:Go.Shelf.Ren:=⟨fun|172=>165|244=>238|245=>239|247=>288|279=>289|280=>290|281=>291|282=>292|287=>321|316=>322|171=>68|205=>323|321=>336|322=>337|243=>168|246=>242|283=>293|284=>294|285=>295|286=>296|129=>258|317=>324|318=>325|319=>326|320=>327|337=>338|338=>339|n=>n,fun|9=>9|3=>3|75=>106|76=>107|4=>4|5=>5|167=>264|37=>102|0=>0|85=>265|2=>2|168=>267|53=>249|175=>291|46=>201|210=>295|127=>179|145=>314|143=>312|21=>21|171=>270|173=>272|212=>298|51=>247|20=>20|213=>299|232=>316|233=>317|80=>110|n=>n,fun|15=>1|16=>2|17=>3|18=>6|19=>7|n=>n⟩
theorem Tryz.mv:Go.Proofs.LaysC.n172 aA Tryz.Bf:={mixed:=by kernel_rfl,f129:=U0 F3,f171:=U0 H6,f172:=U0 func165,f205:=U0 func323,f243:=U0 func168,f244:=U0 func238,f245:=U0 func239,f246:=U0 func242,f247:=U0 func288,f279:=U0 func289,f280:=U0 func290,f281:=U0 func291,f282:=U0 func292,f283:=U0 func293,f284:=U0 func294,f285:=U0 func295,f286:=U0 func296,f287:=U0 func321,f316:=U0 func322,f317:=U0 func324,f318:=U0 func325,f319:=U0 func326,f320:=U0 func327,f321:=U0 func336,f322:=U0 func337,f337:=U0 func338,f338:=U0 func339,t0:=A9,a0:=B0,z0:=B1,v0:=B2,t2:=underlying2,a2:=isAgg2,z2:=sizeOf2,v2:=zeroValue2,t3:=B3,a3:=B4,z3:=B5,v3:=B6,t4:=A0,a4:=A1,z4:=A3,v4:=A4,t5:=C1,a5:=C2,z5:=C3,v5:=C4,t9:=A8,a9:=A5,z9:=A6,v9:=A7,t20:=D4,a20:=D5,z20:=D7,v20:=D8,t21:=underlying21,a21:=isAgg21,z21:=sizeOf21,v21:=zeroValue21,t37:=underlying102,a37:=isAgg102,z37:=sizeOf102,v37:=zeroValue102,t46:=C5,a46:=C6,z46:=C7,v46:=C8,t51:=D9,a51:=E9,z51:=F0,v51:=F1,t53:=F4,a53:=F5,z53:=F6,v53:=F7,t75:=underlying106,a75:=isAgg106,z75:=sizeOf106,v75:=zeroValue106,t76:=underlying107,a76:=isAgg107,z76:=sizeOf107,v76:=zeroValue107,t85:=underlying265,a85:=isAgg265,z85:=sizeOf265,v85:=zeroValue265,t127:=underlying179,a127:=isAgg179,z127:=sizeOf179,v127:=zeroValue179,t143:=underlying312,a143:=isAgg312,z143:=sizeOf312,v143:=zeroValue312,t145:=underlying314,a145:=isAgg314,z145:=sizeOf314,v145:=zeroValue314,t167:=underlying264,a167:=isAgg264,z167:=sizeOf264,v167:=zeroValue264,t168:=underlying267,a168:=isAgg267,z168:=sizeOf267,v168:=zeroValue267,t171:=underlying270,a171:=isAgg270,z171:=sizeOf270,v171:=zeroValue270,t173:=underlying272,a173:=isAgg272,z173:=sizeOf272,v173:=zeroValue272,t175:=underlying291,a175:=isAgg291,z175:=sizeOf291,v175:=zeroValue291,t210:=underlying295,a210:=isAgg295,z210:=sizeOf295,v210:=zeroValue295,t212:=underlying298,a212:=isAgg298,z212:=sizeOf298,v212:=zeroValue298,t213:=underlying299,a213:=isAgg299,z213:=sizeOf299,t232:=underlying316,a232:=isAgg316,z232:=sizeOf316,v232:=zeroValue316,t233:=underlying317,a233:=isAgg317,z233:=sizeOf317,v233:=zeroValue317,g15:=by kernel_rfl,g16:=by kernel_rfl,g17:=by kernel_rfl,g18:=by kernel_rfl,g19:=by kernel_rfl,t80:=underlying110,a80:=isAgg110,z80:=sizeOf110,v80:=zeroValue110,i0:=by kernel_rfl,i2:=by kernel_rfl,i3:=by kernel_rfl,i4:=by kernel_rfl,i5:=by kernel_rfl,i9:=by kernel_rfl,i20:=by kernel_rfl,i21:=by kernel_rfl,i37:=by kernel_rfl,i46:=by kernel_rfl,i51:=by kernel_rfl,i53:=by kernel_rfl,i75:=by kernel_rfl,i76:=by kernel_rfl,i80:=by kernel_rfl,i85:=by kernel_rfl,i127:=by kernel_rfl,i143:=by kernel_rfl,i145:=by kernel_rfl,i167:=by kernel_rfl,i168:=by kernel_rfl,i171:=by kernel_rfl,i173:=by kernel_rfl,i175:=by kernel_rfl,i210:=by kernel_rfl,i212:=by kernel_rfl,i232:=by kernel_rfl,i233:=by kernel_rfl,m15:=by kernel_rfl,m16:=by kernel_rfl,m17:=by kernel_rfl,m18:=by kernel_rfl,m19:=by kernel_rfl,c0:=by kernel_rfl,c2:=by kernel_rfl,c3:=by kernel_rfl,c4:=by kernel_rfl,c5:=by kernel_rfl,c9:=by kernel_rfl,c20:=by kernel_rfl,c21:=by kernel_rfl,c37:=by kernel_rfl,c46:=by kernel_rfl,c51:=by kernel_rfl,c53:=by kernel_rfl,c75:=by kernel_rfl,c76:=by kernel_rfl,c80:=by kernel_rfl,c85:=by kernel_rfl,c127:=by kernel_rfl,c143:=by kernel_rfl,c145:=by kernel_rfl,c167:=by kernel_rfl,c168:=by kernel_rfl,c171:=by kernel_rfl,c173:=by kernel_rfl,c175:=by kernel_rfl,c210:=by kernel_rfl,c212:=by kernel_rfl,c213:=by kernel_rfl,c232:=by kernel_rfl,c233:=by kernel_rfl }
open Go.RowKit in
theorem Tryz.strconv_Atoi_ok(s:ByteArray)(b:s.size<=9223372036854775806)(v:Int)(h:Lib.atoiAll s.data.toList = .ok v)(w:World):Calls aA 165 #[.string s] w fun e w'=>e = .returned (.tuple #[.int .i64 v,.nilIface])/\(w'=w∨∃t,w'=Lib.bytesWorld w 5 t):=Any.strconv_Atoi_ok Tryz.mv s b v h w
def Tryz.uh:Go.Shelf.Ren:=⟨fun|145=>59|220=>163|219=>230|217=>280|225=>281|224=>282|267=>283|266=>316|314=>317|n=>n,fun|9=>9|4=>4|59=>92|3=>3|5=>5|46=>201|146=>288|51=>247|n=>n,fun|1=>0|n=>n⟩
theorem Tryz.qB:Go.Proofs.Lays.n145 aA Tryz.uh:={mixed:=by kernel_rfl,f145:=U0 func59,f217:=U0 N3,f219:=U0 func230,f220:=U0 func163,f224:=U0 N4,f225:=U0 N5,f266:=U0 N6,f267:=U0 func283,f314:=U0 func317,t3:=B3,a3:=B4,z3:=B5,v3:=B6,t4:=A0,a4:=A1,z4:=A3,v4:=A4,t5:=C1,a5:=C2,z5:=C3,v5:=C4,t9:=A8,a9:=A5,z9:=A6,v9:=A7,t46:=C5,a46:=C6,z46:=C7,v46:=C8,t51:=D9,a51:=E9,z51:=F0,v51:=F1,t59:=underlying92,a59:=isAgg92,z59:=sizeOf92,v59:=zeroValue92,t146:=underlying288,a146:=isAgg288,z146:=sizeOf288,v146:=zeroValue288,g1:=by kernel_rfl }
open Go.RowKit Go.Lib in
theorem Tryz.strings_Cut(s sep:ByteArray)(m:Int)(w:World)(b:s.size<4294967281)(c:w.cell? ⟨0,0,none⟩=some (.int .i64 m)):Calls aA 59 #[.string s,.string sep] w fun e w'=>e = .returned (.tuple #[.string ⟨(Lib.cut s.data.toList sep.data.toList).1.toArray⟩,.string ⟨(Lib.cut s.data.toList sep.data.toList).2.1.toArray⟩,.bool (Lib.cut s.data.toList sep.data.toList).2.2])/\∃n,w'=w.drewN n:=Any.strings_Cut Tryz.qB s sep m w b c
def Tryz.Cf:Go.Shelf.Ren:=⟨fun|219=>230|217=>280|225=>281|224=>282|267=>283|266=>316|314=>317|n=>n,fun|9=>9|3=>3|4=>4|5=>5|46=>201|146=>288|51=>247|n=>n,fun|1=>0|n=>n⟩
theorem Tryz.nv:Go.Proofs.LaysM.n219 aA Tryz.Cf:={mixed:=by kernel_rfl,f217:=U0 N3,f219:=U0 func230,f224:=U0 N4,f225:=U0 N5,f266:=U0 N6,f267:=U0 func283,f314:=U0 func317,t3:=B3,a3:=B4,z3:=B5,v3:=B6,t4:=A0,a4:=A1,z4:=A3,v4:=A4,t5:=C1,a5:=C2,z5:=C3,v5:=C4,t9:=A8,a9:=A5,z9:=A6,v9:=A7,t46:=C5,a46:=C6,z46:=C7,v46:=C8,t51:=D9,a51:=E9,z51:=F0,v51:=F1,t146:=underlying288,a146:=isAgg288,z146:=sizeOf288,v146:=zeroValue288,g1:=by kernel_rfl,i3:=by kernel_rfl,i4:=by kernel_rfl,i5:=by kernel_rfl,i9:=by kernel_rfl,i46:=by kernel_rfl,i51:=by kernel_rfl,i146:=by kernel_rfl,m1:=by kernel_rfl,s1_3:=fun w h=>Go.Proofs.cell_of_shapedOpen_int (zero:=#[.int .i64 0]) (t:=3) h (zD (by kernel_rfl)) (by kernel_rfl) rfl (by kernel_rfl) (by kernel_rfl) B3 }
def Tryz.vh:Go.Shelf.Ren:=⟨fun|194=>103|n=>n,fun|31=>22|9=>9|3=>3|4=>4|0=>0|n=>n,fun|n=>n⟩
theorem Tryz.Yn:Go.Proofs.Lays.n194 aA Tryz.vh:={mixed:=by kernel_rfl,f194:=U0 func103,t0:=A9,a0:=B0,z0:=B1,v0:=B2,t3:=B3,a3:=B4,z3:=B5,v3:=B6,t4:=A0,a4:=A1,z4:=A3,v4:=A4,t9:=A8,a9:=A5,z9:=A6,v9:=A7,t31:=B7,a31:=B8,z31:=B9,v31:=C0 }
open Go.RowKit Go.Lib Go.Sort in
theorem Tryz.slices_Compact_string(N' b cap:Nat)(zs:List (List UInt8))(w:World)(f:Holds encStr w N' b zs.toArray)(d:zs.length<=9223372036854775807)(c:zs.length<=cap):Calls aA 103 #[.slice (some ⟨N',b,none⟩) zs.length cap] w fun e w'=>e = .returned (.slice (some ⟨N',b,none⟩) (QY zs).length cap)/\∃q,w'=putRow encStr (Sort.ahead w q) N' b (QY zs++bI (zs.length-(QY zs).length) []).toArray:=Any.slices_Compact_string Tryz.Yn N' b cap zs w f d c
open Go.RowKit Go.Lib Go.Sort in
theorem Tryz.slices_Compact_string_empty(a:Option Addr)(cap:Nat)(w:World):Calls aA 103 #[.slice a 0 cap] w fun e w'=>e = .returned (.slice a 0 cap)/\w'=w:=Any.slices_Compact_string_empty Tryz.Yn a cap w
def Tryz.Qb:Go.Shelf.Ren:=⟨fun|6=>212|n=>n,fun|22=>22|23=>9|25=>25|3=>3|0=>0|4=>4|n=>n,fun|n=>n⟩
theorem Tryz.te:Go.Proofs.SlLaysH.n6 aA Tryz.Qb:={mixed:=by kernel_rfl,f6:=⟨Tryz.f212.name,by decide,U0 F8⟩,t0:=A9,a0:=B0,z0:=B1,v0:=B2,t3:=B3,a3:=B4,z3:=B5,v3:=B6,t4:=A0,a4:=A1,z4:=A3,v4:=A4,t22:=B7,a22:=B8,z22:=B9,v22:=C0,a23:=A5,z23:=A6,t25:=C9,a25:=D1,z25:=D2,v25:=D3 }
open Go.RowKit Go.Lib in
theorem Tryz.slices_IndexFunc_empty{d:Type}[Inhabited d](a:Option Addr)(c:Nat)(b:Value)(w:World):Calls aA 212 #[.slice a 0 c,b] w fun e w'=>e = .returned (.int .i64 (-1))/\w'=w:=AnyE.slices_IndexFunc_empty Tryz.te a c b w
def Tryz.Db:Go.Shelf.Ren:=⟨fun|10=>274|6=>212|n=>n,fun|22=>22|23=>9|25=>25|3=>3|4=>4|0=>0|n=>n,fun|n=>n⟩
theorem Tryz.Kd:Go.Proofs.SlLaysH.n10 aA Tryz.Db:={mixed:=by kernel_rfl,f6:=⟨Tryz.f212.name,by decide,U0 F8⟩,f10:=⟨Tryz.f274.name,by decide,U0 func274⟩,t0:=A9,a0:=B0,z0:=B1,v0:=B2,t3:=B3,a3:=B4,z3:=B5,v3:=B6,t4:=A0,a4:=A1,z4:=A3,v4:=A4,t22:=B7,a22:=B8,z22:=B9,v22:=C0,a23:=A5,z23:=A6,t25:=C9,a25:=D1,z25:=D2,v25:=D3 }
open Go.RowKit Go.Lib Go.Sort in
theorem Tryz.slices_DeleteFunc{c:Type}[Inhabited c](enc:c->Value)(l:OneCell enc)(p:c->Bool)(g:Nat)(lb:Array Value)(m:∀args w,(callFunc g args).run aA w = .ok (.enter g args) w)(h:c)(v23:∀w,(zeroValue 9).run aA w = .ok (enc h) w)(N' b cap:Nat)(d:Array c)(w:World)(hp:PredAt aA g lb enc p w)(i:PredOver aA g lb enc p N' b d.size w)(r:Holds enc w N' b d)(j:d.size<=9223372036854775807)(f:d.size<=cap):Calls aA 274 #[.slice (some ⟨N',b,none⟩) d.size cap,.func (.func g) #[] lb] w fun e w'=>e = .returned (.slice (some ⟨N',b,none⟩) (d.toList.filter fun x=>!p x).length cap)/\∃q,w'=putRow enc (Sort.ahead w q) N' b ((d.toList.filter fun x=>!p x)++bI (d.size-(d.toList.filter fun x=>!p x).length) h).toArray:=AnyE.slices_DeleteFunc Tryz.Kd enc l p g lb m h v23 N' b cap d w hp i r j f
def Tryz.Rb:Go.Shelf.Ren:=⟨fun|6=>102|8=>189|9=>202|19=>257|20=>258|21=>262|22=>263|23=>264|24=>265|25=>266|26=>267|27=>268|28=>269|29=>270|36=>304|31=>298|32=>299|37=>305|38=>306|39=>307|41=>330|n=>n,fun|27=>22|29=>9|3=>3|32=>201|26=>22|0=>0|44=>247|46=>249|4=>4|36=>241|35=>240|41=>94|5=>5|9=>9|53=>274|57=>278|63=>301|64=>302|n=>n,fun|n=>n⟩
theorem Tryz.Ab:Go.Proofs.SlLaysM.n6 aA Tryz.Rb:={mixed:=by kernel_rfl,f6:=⟨Tryz.f102.name,by decide,U0 func102⟩,f8:=U0 func189,f9:=⟨Tryz.f202.name,by decide,U0 func202⟩,f19:=U0 func257,f20:=U0 F3,f21:=⟨Tryz.f262.name,by decide,U0 func262⟩,f22:=⟨Tryz.f263.name,by decide,U0 func263⟩,f23:=⟨Tryz.f264.name,by decide,U0 func264⟩,f24:=⟨Tryz.f265.name,by decide,U0 func265⟩,f25:=⟨Tryz.f266.name,by decide,U0 func266⟩,f26:=⟨Tryz.f267.name,by decide,U0 func267⟩,f27:=⟨Tryz.f268.name,by decide,U0 func268⟩,f28:=⟨Tryz.f269.name,by decide,U0 func269⟩,f29:=⟨Tryz.f270.name,by decide,U0 func270⟩,f31:=U0 func298,f32:=U0 func299,f36:=⟨Tryz.f304.name,by decide,U0 func304⟩,f37:=⟨Tryz.f305.name,by decide,U0 func305⟩,f38:=⟨Tryz.f306.name,by decide,U0 func306⟩,f39:=⟨Tryz.f307.name,by decide,U0 func307⟩,f41:=⟨Tryz.f330.name,by decide,U0 func330⟩,t0:=A9,a0:=B0,z0:=B1,v0:=B2,t3:=B3,a3:=B4,z3:=B5,v3:=B6,t4:=A0,a4:=A1,z4:=A3,v4:=A4,t5:=C1,a5:=C2,z5:=C3,v5:=C4,t9:=A8,a9:=A5,z9:=A6,v9:=A7,t26:=B7,a26:=B8,z26:=B9,v26:=C0,t27:=B7,a27:=B8,z27:=B9,v27:=C0,t29:=A8,a29:=A5,z29:=A6,v29:=A7,t32:=C5,a32:=C6,z32:=C7,v32:=C8,t35:=underlying240,a35:=isAgg240,z35:=sizeOf240,v35:=zeroValue240,t36:=underlying241,a36:=isAgg241,z36:=sizeOf241,v36:=zeroValue241,t41:=underlying94,a41:=isAgg94,z41:=sizeOf94,v41:=zeroValue94,t44:=D9,a44:=E9,z44:=F0,v44:=F1,t46:=F4,a46:=F5,z46:=F6,v46:=F7,t53:=underlying274,a53:=isAgg274,z53:=sizeOf274,v53:=zeroValue274,t57:=underlying278,a57:=isAgg278,z57:=sizeOf278,v57:=zeroValue278,t63:=underlying301,a63:=isAgg301,z63:=sizeOf301,v63:=zeroValue301,t64:=underlying302,a64:=isAgg302,z64:=sizeOf302,v64:=zeroValue302 }
open Go.Sort Go.RowKit in
theorem Tryz.slices_Sort_string(N' off cap:Nat)(ss:List (List UInt8))(w:World)(hH:Holds encStr w N' off ss.toArray)(hblk:N'<w.heap.size)(hsz:ss.length<4611686018427387904):Calls aA 102 #[.slice (some ⟨N',off,none⟩) ss.length cap] w fun e w'=>
   e = .returned (.tuple #[])/\∃n os,w'=grow (putRow encStr (Sort.ahead w n) N' off (ss.mergeSort fun x y=>decide (x<=y)).toArray) os:=AnyM.slices_Sort_string Tryz.Ab N' off cap ss w hH hblk hsz
open Go.RowKit Go.Sort in
theorem Tryz.slices_Sort_string_none(p:Option Addr)(cap:Nat)(w:World):Calls aA 102 #[.slice p 0 cap] w fun e w'=>e = .returned (.tuple #[])/\w'=w:=AnyM.slices_Sort_string_none Tryz.Ab p cap w
end Go.Proofs
namespace Go.Proofs.YtopanhneegpgcaaGreatDoor
open Go Go.RowKit
abbrev Bs:=List UInt8
abbrev kC:Type:=List ((Bs×Bs)×Unit)
abbrev kD:Type:=List (Bs×Bs)
abbrev kE:Type:=List Bs
abbrev LV:=List Value
abbrev _root_.UInt8.I(x:UInt8):Int:=(x.toNat:Int)
abbrev _root_.UInt16.I(x:UInt16):Int:=(x.toNat:Int)
abbrev _root_.UInt32.I(x:UInt32):Int:=(x.toNat:Int)
abbrev _root_.UInt64.I(x:UInt64):Int:=(x.toNat:Int)
section
structure Gv where
 v:Value
 f:Nat->Bool
instance :CoeOut Gv Value:=⟨Gv.v⟩
abbrev Oa:=Nat->Option (Sum Value (Gv->World->Prop))
def Ext(w w':World):Prop:=Below w.heap.size w w'
theorem Ext.refl(w:World):Ext w w:=Below.refl _ _
theorem Ext.trans{a b c:World}(h:Ext a b)(k:Ext b c):Ext a c:=Below.trans h (Below.mono k h.size)
def Ld(Φ:Oa)(vs:Nat->Gv)(w:World)(j:Nat):Prop:=
 match Φ j with
 |some (.inr b)=>b (vs j) w|_=>True
def de(Φ:Oa)(vs:Nat->Gv)(w:World):List Nat->Prop
 |[]=>True|j::l=>Ld Φ vs w j/\de Φ vs w l
theorem GO{Φ:Oa}{vs:Nat->Gv}{w:World}{l:List Nat}:de Φ vs w l↔∀j∈l,Ld Φ vs w j:=by
 induction l with
 |nil=>simp[de]|cons j l b=>simp[de,b]
def Nb(o:Oper):List Nat:=(o.after.toList.filter (Region.binds .any)).map (·.on)
theorem NM{o:Oper}{j:Nat}:j∈Nb o↔∃e∈o.after,Region.binds .any e=true/\e.on=j:=by
 simp only[Nb,List.mem_map,List.mem_filter,Array.mem_toList_iff];constructor
 ·rintro⟨e,⟨b,c⟩,d⟩;exact⟨e,b,c,d⟩
 ·rintro⟨e,b,c,d⟩;exact⟨e,⟨b,c⟩,d⟩
def OM(ops:Array Oper):Nat->List Nat->List Nat
 |0,l=>l|i+1,l=>OM ops i (bif l.contains i then(match ops[i]? with
  |some o=>Nb o++l|none=>l)else l)
def Wc(ops:Array Oper)(n k:Nat):Bool:=
 match ops[n]? with
 |some o=>!(OM ops n (Nb o)).contains k|none=>false
theorem MT{ops:Array Oper}{p:Nat->Prop}{N:Nat}(hp:∀i o,i<N->p i->ops[i]? = some o->∀j∈Nb o,p j):∀(i:Nat) (l:List Nat),i<=N->(∀j∈l,p j)->∀j∈OM ops i l,p j
 |0,_,_,h=>h|i+1,l,c,h=>by
  rw[OM];refine MT hp i _ (by omega) ?_;cases d:l.contains i with
  |false=>simpa using h|true=>
   have e:p i:=h i (by simpa using d);cases f:ops[i]? with
   |none=>simpa using h|some o=>
    intro j b;simp only[zF,List.mem_append]at b;rcases b with b|b
    ·exact hp i o (by omega) e f j b
    ·exact h j b
def outcome(P:Program)(R:Value->World->Prop):Result Next->Prop
 |.ok (.value v) c=>R v c|.ok .skip c=>R undef c|.ok (.enter f b) c=>Calls P f b c fun e d=>match e with
  |.returned v=>R v d|_=>False
 |.ok (.row row b) c=>Rows P row b c R|_=>False
section
variable (P:Program)(R:Value->World->Prop)(w:World)
@[go_sem] theorem yxK (v:Value):outcome P R (.ok (.value v) w)=R v w:=rfl
end
theorem NT{P:Program}{R:Value->World->Prop}{o:Oper}{a:Act}{w:World}{K:Act->World->Prop}{Q:Exit->Act->World->Prop} (h:outcome P R ((execOp a.eval o).run P w)) (c:∀v w',R v w'->K (a.put o.dst v) w'):o.wp P a w K Q:=by
 unfold Oper.wp;generalize (execOp a.eval o).run P w=r at *;cases r with
 |ok x w'=>
  cases x<;>simp only[outcome]at h<;>simp only[Oper.upon] <;>
   first
    |exact c _ _ h
    |exact Calls.mono h (fun e d b=>by cases e<;>first|exact c _ _ b|exact b.elim)|exact Rows.mono h (fun _ _ b=>c _ _ b)
 |halt x w'=>simp only[outcome]at h
section
variable (P:Program)(ops:Array Oper)(n:Nat)(Φ:Oa)(w0:World)
def xm:Nat:=1000000007
def jx(Φ:Oa)(w:World):Prop:=match Φ xm with
 |some (.inr b)=>b ⟨undef,fun _=>false⟩ w|_=>False
def PM(vs:Nat->Gv)(k:Nat)(o:Oper)(a:Act)(c:Value):Prop:=
 if Wc ops n k then
  (p9 o (yielded ops a.tmps)=true/\∀w,((Φ xm).isSome=true->Ext w0 w∨jx Φ w)->(execOp a.eval o).run P w = .ok (.value c) w) ∨
  (p9 o (yielded ops a.tmps)=false/\c=undef)
 else
 (p9 o (yielded ops a.tmps)=true/\∀w,Ext w0 w->de Φ vs w (Nb o)->(execOp a.eval o).run P w = .ok (.value c) w) ∨
 (p9 o (yielded ops a.tmps)=false/\c=undef)
def GA(w:World)(v:Value):Prop:=∃b o,v = .pointer (some ⟨b,o,none⟩)/\b<w.heap.size
def HA(o:Oper):Bool:=match o.op with
 |.alloc _=>true|_=>false
def qb(Φ:Oa)(k:Nat):Bool:=match Φ k with
 |some (.inr _)=>true|_=>false
def made(vs:Nat->Gv)(o:Oper)(w:World)(g:Gv)(w':World):Prop:=∀b,g.f b->b<w'.heap.size/\(w.heap.size<=b∨∃k∈Nb o,qb Φ k=true/\(vs k).f b)
def BI(vs:Nat->Gv)(o:Oper)(a:Act)(φ:Gv->World->Prop):Prop:=
 if p9 o (yielded ops a.tmps) then
  ∀w,Ext w0 w->de Φ vs w (Nb o)->∀R:Value->World->Prop,(∀g b,Ext w b->φ g b->made Φ vs o w g b->(HA o=true->¬GA w g.v)->R g.v b)->outcome P R ((execOp a.eval o).run P w)
 else ∀w,φ ⟨undef,fun _=>false⟩ w
def vd(vs:Nat->Gv)(Fin:Act->Prop):Nat->List Oper->Act->Prop
 |_,[],a=>Fin a|k,o::rest,a=>
  match Φ k with
  |none=>∃c,PM P ops n Φ w0 vs k o a c/\vd vs Fin (k+1) rest (a.put o.dst c)|some (.inl c)=>Wc ops n k=false/\BI P ops Φ w0 vs o a (fun g _=>g.v=c)/\vd vs Fin (k+1) rest (a.put o.dst c)|some (.inr d)=>Wc ops n k=false/\(∀v w e,d v w->Ext w e->d v e)/\(HA o=true->∀g w,d g w->GA w g.v/\∀b,¬g.f b)/\BI P ops Φ w0 vs o a d/\vd vs Fin (k+1) rest (a.put o.dst (vs k).v)
end
def rB(ops:Array Oper)(n:Nat):Bool:=
 Region.noSelect ops&&decide (n<=ops.size) &&
 ((dJ n).all fun i=>match ops[i]? with
  |none=>false|some b=>
   (Nb b).all (fun j=>decide (j<i)) &&
   ((dJ n).all fun j=>match (ops[j]?).bind (·.dst) with
    |none=>true|some d=>(j==i||((ops[i]?).bind (·.dst)) != some d)&&(!(b.looksAt ops).contains d||(Nb b).contains j))) &&
 ((dJ (ops.size-n)).all fun t=>match ops[n+t]? with
  |none=>false|some o=>t==0||(Nb o).contains (n+t-1)) &&
 ((dJ n).all fun i=>!Wc ops n i||Region.free .any ops ((fU ops.size).map fun j=>decide (j<n)&&(!Wc ops n j||decide (j<i))) i) &&
 Region.seqB .any ops (ops.size-n) n ((fU ops.size).map fun j=>decide (j<n))
section
variable {P:Program}{ops:Array Oper}{n:Nat}{Φ:Oa}{w0:World}
structure Jk (ops:Array Oper) (n:Nat):Prop where
 ov:Region.noSelect ops=true
 le:n<=ops.size
 Z8:∀i oi,i<n->ops[i]? = some oi->∀j∈Nb oi,j<i
 dst:∀i j oi oj d,i<n->j<n->ops[i]? = some oi->ops[j]? = some oj->oj.dst=some d->j≠i->oi.dst≠some d
 look:∀i j oi oj d,i<n->j<n->ops[i]? = some oi->ops[j]? = some oj->oj.dst=some d->d∈oi.looksAt ops->j∈Nb oi
 chain:∀t o,n<t->ops[t]? = some o->t-1∈Nb o
 free:∀i,i<n->Wc ops n i=true->Region.free .any ops ((fU ops.size).map fun j=>decide (j<n)&&(!Wc ops n j||decide (j<i))) i=true
 seq:Region.seqB .any ops (ops.size-n) n ((fU ops.size).map fun j=>decide (j<n))=true
theorem sB{ops:Array Oper}{n:Nat}(h:rB ops n=true):Jk ops n:=by
 unfold rB at h;simp only[aI,zE,bR,dF]at h;obtain⟨⟨⟨⟨⟨r,s⟩,g⟩,u⟩,v⟩,x⟩:=h;refine⟨r,s,?_,?_,?_,?_,?_,x⟩
 ·intro i p c b j f;have:=g i c;simp only[b,aI,bR,zE]at this;exact this.1 j f
 ·intro i j p y d c f b e l m;have:=g i c;simp only[b,aI,bR,zE,dF]at this;have:=this.2 j f;simp only[e,eO,l,aI,cH,beq_iff_eq,m,false_or,bne_iff_ne]at this;exact this.1
 ·intro i j p y d c f b e l z;have:=g i c;simp only[b,aI,bR,zE,dF]at this;have:=this.2 j f;simp only[e,eO,l,aI,cH,Bool.not_eq_true',cI,decide_eq_false_iff_not,zE,z,not_true_eq_false,false_or]at this;exact this.2
 ·intro t o C q;have A:t<ops.size:=(aT.1 q).1;have:=u (t-n) (by omega);rw[show n+(t-n)=t by omega]at this;simp only[q,cH,beq_iff_eq,cI,zE]at this;rcases this with h|h
  ·omega
  ·exact h
 ·intro i c B;have:=v i c;simpa[B]using this
theorem xd(a:Act)(d:Option Tmp)(v:Value)(t:Nat):(a.put d v).tmps[t]? = if d=some t then(a.tmps[t]?).map (fun _=>v)else a.tmps[t]?:=by
 cases d with
 |none=>simp[Act.put]|some d=>
  simp only[Act.put,Option.some.injEq];by_cases h:d=t
  ·subst h;simp only[if_true];by_cases b:d<a.tmps.size
   ·simp[b]
   ·simp[gO (Nat.le_of_not_lt b),gO (xs:=a.tmps.setIfInBounds d v) (by simpa using b)]
  ·rw[zI h,Array.getElem?_setIfInBounds_ne h]
structure Holds (ops:Array Oper) (n:Nat) (a0 a:Act) (C:Nat->Value) (L:Nat->Prop):Prop where
 defers:a.defers=a0.defers
 other:∀t,(∀j oj,j<n->L j->ops[j]? = some oj->oj.dst≠some t)->a.tmps[t]? = a0.tmps[t]?
 at_:∀j oj t,j<n->L j->ops[j]? = some oj->oj.dst=some t->a.tmps[t]? = (a0.tmps[t]?).map (fun _=>C j)
theorem Holds.put{a0 a:Act}{C:Nat->Value}{L:Nat->Prop}(S:Jk ops n)(h:Holds ops n a0 a C L){i:Nat}{c:Oper}(u:i<n)(d:ops[i]? = some c)(v:¬L i):
  Holds ops n a0 (a.put c.dst (C i)) C (fun j=>L j∨j=i):=by
 refine⟨?_,?_,?_⟩
 ·rw[<-h.defers];cases c.dst<;>rfl
 ·intro t x;rw[xd,zI (x i c u (.inr rfl) d)];exact h.other t fun j g l f=>x j g l (.inl f)
 ·intro j g t l f b m;rw[xd];rcases f with f|rfl
  ·have p:i≠j:=fun e=>v (e▸f);rw[zI (S.dst i j c g t u l d b m (Ne.symm p))];exact h.at_ j g t l f b m
  ·have:c=g:=Option.some.inj (d.symm.trans b);subst this;rw[zJ m];rw[h.other t fun k ok y q r s=>S.dst k j ok c t y l r b m (fun e=>v (e▸q)) s]
theorem Holds.pv{a0 a:Act}{C c:Nat->Value}{L:Nat->Prop}(h:Holds ops n a0 a C L)(f:∀j,j<n->L j->C j=c j):Holds ops n a0 a c L:=
 ⟨h.defers,h.other,fun j g t d e b i=>by rw[h.at_ j g t d e b i,f j d e]⟩
theorem Holds.Md{a0 a:Act}{C:Nat->Value}{L e:Nat->Prop}(h:Holds ops n a0 a C L)(f:∀j,j<n->(L j↔e j)):Holds ops n a0 a C e:=
 ⟨h.defers,fun t g=>h.other t fun j c b d=>g j c b ((f j b).1 d),fun j c t b d=>h.at_ j c t b ((f j b).2 d)⟩
theorem Holds.eq{a0 a b:Act}{C:Nat->Value}{L:Nat->Prop}(h:Holds ops n a0 a C L)(k:Holds ops n a0 b C L):a=b:=by
 have l:a.tmps=b.tmps:=by
  apply gJ;intro t;by_cases i:∃j d,j<n/\L j/\ops[j]? = some d/\d.dst=some t
  ·obtain⟨j,d,f,g,c,e⟩:=i;rw[h.at_ j d t f g c e,k.at_ j d t f g c e]
  ·rw[h.other t fun j d f g c e=>i ⟨j,d,f,g,c,e⟩,k.other t fun j d f g c e=>i ⟨j,d,f,g,c,e⟩]
 have e:a.defers=b.defers:=h.defers.trans k.defers.symm;cases a;cases b;simp_all
theorem Holds.same{a0 a b:Act}{C:Nat->Value}{L M:Nat->Prop}(S:Jk ops n)(h:Holds ops n a0 a C L)(k:Holds ops n a0 b C M){i:Nat}{g:Oper}(p:i<n)(l:ops[i]? = some g) (q:∀j∈Nb g,L j) (r:∀j∈Nb g,M j):∀t∈g.looksAt ops,a.tmps[t]? = b.tmps[t]?:=by
 intro t s;by_cases m:∃j d,j<n/\ops[j]? = some d/\d.dst=some t
 ·obtain⟨j,d,e,c,f⟩:=m;have:=S.look i j g d t p e l c f s;rw[h.at_ j d t e (q j this) c f,k.at_ j d t e (r j this) c f]
 ·rw[h.other t fun j d e _ c f=>m ⟨j,d,e,c,f⟩,k.other t fun j d e _ c f=>m ⟨j,d,e,c,f⟩]
theorem HO{a b:Act}{o:Oper}(d:∀cs c,o.op≠.select cs c)(h:∀t∈o.looksAt ops,a.tmps[t]? = b.tmps[t]?):
  execOp a.eval o=execOp b.eval o/\p9 o (yielded ops a.tmps)=p9 o (yielded ops b.tmps):=by
 refine⟨execOp_congr o d fun x e=>?_,?_⟩
 ·cases x with
  |tmp t=>have:=h t (List.mem_append_left _ (List.mem_filterMap.2 ⟨.tmp t,by simpa using e,rfl⟩));simp only[Act.eval,iG,this]|_=>rfl
 ·unfold p9;cases f:o.guard with
  |none=>rfl|some gw=>
   obtain⟨g,want⟩:=gw;have i:yielded ops a.tmps g=yielded ops b.tmps g:=by
    unfold yielded;cases j:(ops[g]?).bind (·.dst) with
    |none=>rfl|some t=>have:=h t (by simp[Oper.looksAt,f,j]);simp only[eO,this]
   simp only[i]
end
end
section
def j5(Q:Exit->Act->World->Prop):Exit->Act->World->Prop
 |.normal,a,w=>Q .normal a w|_,_,_=>False
theorem j5.imp{Q:Exit->Act->World->Prop}:∀(e:Exit) (a:Act) (w:World),j5 Q e a w->Q e a w:=fun e a w h=>by cases e<;>first|exact h|exact(h:False).elim
theorem yuZ(p q:Nat->Bool)(i:Nat)(hp:p i=true)(r:q i=false)(h:∀j,j≠i->p j=q j):∀l:List Nat,l.Nodup->i∈l->l.countP p=l.countP q+1
 |[],_,c=>by cases c
 |x::l,d,c=>by
  have b:=List.nodup_cons.1 d;by_cases f:x=i
  ·subst f;have:l.countP p=l.countP q:=List.countP_congr fun j s=>by have g:j≠x:=fun e=>b.1 (e▸s);rw[h j g]
   rw[gP,gP,hp,r,this];simp
  ·have m:i∈l:=(List.mem_cons.1 c).resolve_left (fun e=>f e.symm);rw[gP,gP,yuZ p q i hp r h l b.2 m,h x f];omega
section
variable {P:Program}{ops:Array Oper}{n:Nat}{Φ:Oa}{w0:World}
def Nd(P:Program)(ops:Array Oper)(n:Nat)(Φ:Oa)(w0:World)(vs:Nat->Gv)(k:Nat)(o:Oper)(a:Act)(c:Value):Prop:=
 match Φ k with
 |none=>PM P ops n Φ w0 vs k o a c|some (.inl x)=>c=x/\Wc ops n k=false/\BI P ops Φ w0 vs o a (fun g _=>g.v=x)|some (.inr d)=>c=(vs k).v/\Wc ops n k=false/\(∀v w e,d v w->Ext w e->d v e)/\(HA o=true->∀g w,d g w->GA w g.v/\∀b,¬g.f b)/\BI P ops Φ w0 vs o a d
def uB(ops:Array Oper)(Φ:Oa)(k:Nat):Bool:=match ops[k]?,Φ k with
 |some o,some (.inr _)=>HA o|_,_=>false
def wB(ops:Array Oper)(Φ:Oa)(vs:Nat->Gv)(i j:Nat):Prop:=
 (uB ops Φ i=true->uB ops Φ j=true->(vs i).v≠(vs j).v)/\(qb Φ i=true->uB ops Φ j=true->∀b o,(vs j).v = .pointer (some ⟨b,o,none⟩)->¬(vs i).f b)
def wh(ops:Array Oper)(n:Nat)(Φ:Oa)(vs:Nat->Gv):Prop:=∀i j,i<n->j<n->i≠j->wB ops Φ vs i j
theorem RY{ops:Array Oper}{Φ:Oa}{i:Nat}(h:qb Φ i=false):uB ops Φ i=false:=by
 unfold uB;unfold qb at h;split
 ·rename_i b;rw[b]at h;cases h
 ·rfl
theorem wB.JO{ops:Array Oper}{Φ:Oa}{vs:Nat->Gv}{i j:Nat}(h:qb Φ i=false):wB ops Φ vs i j:=⟨fun b=>absurd b (by rw[RY h];simp),fun b=>absurd b (by rw[h];simp)⟩
theorem wB.LO{ops:Array Oper}{Φ:Oa}{vs:Nat->Gv}{i j:Nat}(h:qb Φ j=false):wB ops Φ vs i j:=⟨fun _ b=>absurd b (by rw[RY h];simp),fun _ b=>absurd b (by rw[RY h];simp)⟩
theorem MO{Φ:Oa}{i:Nat}(h:∀φ,Φ i≠some (.inr φ)):qb Φ i=false:=by
 unfold qb;split
 ·rename_i b;exact absurd b (h _)
 ·rfl
theorem Zn{vs:Nat->Gv}{Fin:Act->Prop}:∀(l:List Oper) (k:Nat) (a:Act),(∀j o,l[j]? = some o->ops[k+j]? = some o)->vd P ops n Φ w0 vs Fin k l a ->∃(C:Nat->Value) (T:Nat->Act),T k=a/\(∀i,k<=i->i<k+l.length->∃o,ops[i]? = some o/\T (i+1)=(T i).put o.dst (C i)/\Nd P ops n Φ w0 vs i o (T i) (C i))/\Fin (T (k+l.length))
 |[],k,a,_,h=>⟨fun _=>undef,fun _=>a,rfl,fun i s e=>by simp at e;omega,h⟩|o::l,k,a,r,h=>by
  have t:ops[k]? = some o:=r 0 o rfl
  have f:∀j d,l[j]? = some d->ops[k+1+j]? = some d:=fun j d u=>by
   have:=r (j+1) d (by simpa using u)
   rwa[show k+(j+1)=k+1+j by omega]at this
  have key:∃c,Nd P ops n Φ w0 vs k o a c/\vd P ops n Φ w0 vs Fin (k+1) l (a.put o.dst c):=by
   unfold vd at h;unfold Nd;cases g:Φ k with
   |none=>simp only[g]at h;exact h|some x=>
    cases x with
    |inl x=>simp only[g]at h;exact⟨x,⟨rfl,h.1,h.2.1⟩,h.2.2⟩|inr E=>simp only[g]at h;exact⟨(vs k).v,⟨rfl,h.1,h.2.1,h.2.2.1,h.2.2.2.1⟩,h.2.2.2.2⟩
  obtain⟨c,y,z⟩:=key;obtain⟨C,T,A,m,B⟩:=Zn l (k+1) _ f z;refine⟨fun i=>if i=k then c else C i,fun i=>if i=k then a else T i,by simp,?_,?_⟩
  ·intro i s e;by_cases b:i=k
   ·subst b;refine⟨o,t,?_,?_⟩
    ·simp[A]
    ·simpa using y
   ·obtain⟨d,p,D,q⟩:=m i (by omega) (by simp only[aQ]at e;omega);refine⟨d,p,?_,?_⟩
    ·show(if i+1=k then a else T (i+1))=(if i=k then a else T i).put d.dst (if i=k then c else C i);rw[zI (by omega),zI b,zI b];exact D
    ·show Nd P ops n Φ w0 vs i d (if i=k then a else T i) (if i=k then c else C i);rw[zI b,zI b];exact q
  ·show Fin (if k+(o::l).length=k then a else T (k+(o::l).length));rw[zI (by simp only[aQ];omega),show k+(o::l).length=k+1+l.length by simp only[aQ];omega];exact B
structure Sb (P:Program) (ops:Array Oper) (n:Nat) (Φ:Oa) (w0:World) (a0:Act) (vs:Nat->Gv) (C:Nat->Value) (T:Nat->Act):Prop where
 start:T 0=a0
 step:∀i,i<n->∃o,ops[i]? = some o/\T (i+1)=(T i).put o.dst (C i)/\Nd P ops n Φ w0 vs i o (T i) (C i)
theorem Sb.holds{a0:Act}{vs:Nat->Gv}{C:Nat->Value}{T:Nat->Act}(S:Jk ops n)(R:Sb P ops n Φ w0 a0 vs C T):∀i,i<=n->Holds ops n a0 (T i) C (fun j=>j<i)
 |0,_=>by rw[R.start];exact⟨rfl,fun _ _=>rfl,fun j e t f b=>absurd b (by omega)⟩
 |i+1,g=>by obtain⟨o,c,d,_⟩:=R.step i (by omega);rw[d];exact((R.holds S i (by omega)).put S (by omega) c (by omega)).Md fun j _=>by omega
theorem Sb.agree{a0:Act}{vs q:Nat->Gv}{C I:Nat->Value}{T T':Nat->Act}{L:Nat->Prop}{w:World}(S:Jk ops n)(R:Sb P ops n Φ w0 a0 vs C T)(W:Sb P ops n Φ w0 a0 q I T') (H:Ext w0 w) (J:∀i X,i<n->L i->ops[i]? = some X->∀j∈Nb X,L j) (K:∀j,j<n->L j->vs j=q j) (hf:∀j,j<n->L j->Ld Φ vs w j) (M:∀j,j<n->L j->Ld Φ q w j):∀i,i<n->L i->C i=I i:=by
 intro i;induction i using Nat.strongRecOn with
 |_ i ih=>
  intro B Y;obtain⟨o,D,_,d⟩:=R.step i B;obtain⟨o',N,_,c⟩:=W.step i B;have:o=o':=Option.some.inj (D.symm.trans N);subst this;have g:=J i o B Y D;have u:=S.Z8 i o B D;have Z:=(R.holds S i (by omega));have E:=(W.holds S i (by omega));have hH2:Holds ops n a0 (T i) I (fun j=>j<i/\j∈Nb o)∨True:=.inr trivial;have v:∀t∈o.looksAt ops,(T i).tmps[t]? = (T' i).tmps[t]?:=by
   intro t ht;by_cases O:∃j p,j<n/\ops[j]? = some p/\p.dst=some t
   ·obtain⟨j,p,f,e,y⟩:=O;have hm:=S.look i j o p t B f D e y ht;have z:=u j hm;rw[Z.at_ j p t f z e y,E.at_ j p t f z e y,ih j z f (g j hm)]
   ·rw[Z.other t fun j p f _ e y=>O ⟨j,p,f,e,y⟩,E.other t fun j p f _ e y=>O ⟨j,p,f,e,y⟩]
  obtain⟨he,r⟩:=HO (fun cs b=>AI S.ov i o cs b D) v;have Q:de Φ vs w (Nb o):=GO.2 fun j f=>hf j (by have:=u j f;omega) (g j f);have F:de Φ q w (Nb o):=GO.2 fun j f=>M j (by have:=u j f;omega) (g j f);unfold Nd at d c;cases U:Φ i with
  |none=>
   simp only[U]at d c;unfold PM at d c;by_cases s:Wc ops n i=true
   ·rw[zJ s]at d c;rcases d with⟨h,A⟩|⟨h,A⟩
    ·rcases c with⟨l,m⟩|⟨l,m⟩
     ·have G:=A w (fun _=>.inl H);have V:=m w (fun _=>.inl H);rw[he,V]at G;simpa using G.symm
     ·rw[r,l]at h;cases h
    ·rcases c with⟨l,m⟩|⟨l,m⟩
     ·rw[r,l]at h;cases h
     ·rw[A,m]
   ·rw[zI s]at d c;rcases d with⟨h,A⟩|⟨h,A⟩
    ·rcases c with⟨l,m⟩|⟨l,m⟩
     ·have G:=A w H Q;have V:=m w H F;rw[he,V]at G;simpa using G.symm
     ·rw[r,l]at h;cases h
    ·rcases c with⟨l,m⟩|⟨l,m⟩
     ·rw[r,l]at h;cases h
     ·rw[A,m]
  |some x=>
   cases x with
   |inl x=>simp only[U]at d c;rw[d.1,c.1]|inr φ=>simp only[U]at d c;rw[d.1,c.1,K i B Y]
theorem QM{listed:Array Bool}{i:Nat}(b:i<listed.size):listed.getD i true=listed.getD i false:=by simp[b]
structure Mid (P:Program) (ops:Array Oper) (n:Nat) (Φ:Oa) (w0:World) (a0:Act) (listed:Array Bool) (a:Act) (w:World) (vs:Nat->Gv) (C:Nat->Value) (T:Nat->Act):Prop where
 size:listed.size=ops.size
 closed:∀i oi,i<n->listed.getD i false=true->ops[i]? = some oi->∀j∈Nb oi,listed.getD j false=true
 tail:∀t,n<=t->t<ops.size->listed.getD t false=false
 run:Sb P ops n Φ w0 a0 vs C T
 frame:Holds ops n a0 a C (fun j=>listed.getD j false=true)
 world:Ext w0 w
 facts:∀j,j<n->listed.getD j false=true->Ld Φ vs w j
 Hr:∀j,j<n->listed.getD j false=true->qb Φ j=true->∀b,(vs j).f b->b<w.heap.size
 apart:∀j k,j<n->k<n->j≠k->listed.getD j false=true->listed.getD k false=true->wB ops Φ vs j k
theorem ywA{vs:Nat->Gv}{w w':World}{j:Nat}(b:∀φ,Φ j=some (.inr φ)->∀v w w',φ v w->Ext w w'->φ v w')(h:Ld Φ vs w j)(d:Ext w w'):Ld Φ vs w' j:=by
 unfold Ld at *;cases c:Φ j with
 |none=>trivial|some x=>
  cases x with
  |inl x=>trivial|inr φ=>simp only[c]at h ⊢;exact b φ c _ _ _ h d
theorem Sb.qv{a0:Act}{vs:Nat->Gv}{C:Nat->Value}{T:Nat->Act}(R:Sb P ops n Φ w0 a0 vs C T){j:Nat}(c:j<n)(φ:Gv->World->Prop)(hk:Φ j=some (.inr φ)):∀v w w',φ v w->Ext w w'->φ v w':=by obtain⟨o,_,_,b⟩:=R.step j c;unfold Nd at b;simp only[hk]at b;exact b.2.2.1
theorem Mid.comes{Q:Exit->Act->World->Prop}{a0:Act}(S:Jk ops n)(hall:∀vs,∃C T,Sb P ops n Φ w0 a0 vs C T) {listed:Array Bool} {a:Act} {w:World} {vs:Nat->Gv} {C:Nat->Value} {T:Nat->Act} (M:Mid P ops n Φ w0 a0 listed a w vs C T) {i:Nat} (hi:i<n) (hr:i∈Region.ready .any ops listed) {K:Act->World->Prop} (hK:∀a' w' vs' C' T',Mid P ops n Φ w0 a0 (listed.setIfInBounds i true) a' w' vs' C' T'->K a' w'):wpOp P ops Q i K a w:=by
 obtain⟨hun,o,N,hdone⟩:=mem_ready.1 hr;have hisz:i<listed.size:=by rw[M.size];exact cQ hi S.le
 have q:listed.getD i false=false:=by rw[<-QM hisz];exact hun
 obtain⟨o',ho',_,m⟩:=M.run.step i hi;have:o=o':=Option.some.inj (N.symm.trans ho');subst this;have r:∀j∈Nb o,listed.getD j false=true:=fun j d=>by obtain⟨e,he,A,hon⟩:=NM.1 d;rw[<-hon];exact hdone e he A
 have hlt:=S.Z8 i o hi N;have hH:=M.run.holds S i (by omega);have hlook:=M.frame.same S hH hi N r hlt;obtain⟨he,hwt⟩:=HO (fun cs b=>AI S.ov i o cs b N) hlook;have hfl:de Φ vs w (Nb o):=GO.2 fun j d=>M.facts j (by have:=hlt j d;omega) (r j d)
 have c:∀j,(listed.setIfInBounds i true).getD j false=true↔listed.getD j false=true∨j=i:=fun j=>by
  by_cases s:j=i
  ·subst s;simp[hisz]
  ·rw[getD_set_ne false (Ne.symm s)];simp[s]
 -- with the same given values
 have stay:(∀φ,Φ i≠some (.inr φ))->∀w',Ext w w'->Ld Φ vs w' i->Mid P ops n Φ w0 a0 (listed.setIfInBounds i true) (a.put o.dst (C i)) w' vs C T:=fun hno w' D z=>
  { size:=by simp[M.size]
    closed:=fun k ok y p u j d=>by
     rcases(c k).1 p with h|rfl
     ·exact getD_set_true (M.closed k ok y h u j d)
     ·have:o=ok:=Option.some.inj (N.symm.trans u);subst this;exact getD_set_true (r j d)
    tail:=fun t B hts=>by rw[getD_set_ne false (by omega)];exact M.tail t B hts
    run:=M.run
    frame:=(M.frame.put S hi N (by rw[q];simp)).Md fun j _=>(c j).symm
    world:=M.world.trans D
    facts:=fun j d p=>by
     rcases(c j).1 p with h|rfl
     ·exact ywA (M.run.qv d) (M.facts j d h) D
     ·exact z
    Hr:=fun j d p hrr b A=>by
     rcases(c j).1 p with h|rfl
     ·exact cQ (M.Hr j d h hrr b A) D.size
     ·exact absurd hrr (by rw[MO hno];simp)
    apart:=fun j k d y E hlj W=>by
     rcases(c j).1 hlj with h|rfl
     ·rcases(c k).1 W with X|rfl
      ·exact M.apart j k d y E h X
      ·exact .LO (MO hno)
     ·exact .JO (MO hno) }
 unfold wpOp;simp only[N];unfold Nd at m;cases y:Φ i with
 |none=>
  simp only[y]at m;have z:∀w',Ld Φ vs w' i:=fun w'=>by unfold Ld;rw[y];trivial
  have hy:(p9 o (yielded ops a.tmps)=true/\(execOp a.eval o).run P w = .ok (.value (C i)) w)∨(p9 o (yielded ops a.tmps)=false/\C i=undef):=by
   unfold PM at m;rw[he,hwt];by_cases hfl2:Wc ops n i=true
   ·rw[zJ hfl2]at m;exact m.imp (fun⟨O,U⟩=>⟨O,U w (fun _=>.inl M.world)⟩) id
   ·rw[zI hfl2]at m;exact m.imp (fun⟨O,U⟩=>⟨O,U w M.world hfl⟩) id
  rcases hy with⟨O,U⟩|⟨O,U⟩
  ·simp only[O,if_true,Oper.wp,U,Oper.upon];exact .inl (hK _ _ _ _ _ (stay (fun φ h=>by rw[y]at h;cases h) w (Ext.refl w) (z w)))
  ·simp only[O,Bool.false_eq_true,if_false];rw[<-U];exact hK _ _ _ _ _ (stay (fun φ h=>by rw[y]at h;cases h) w (Ext.refl w) (z w))
 |some x=>
  cases x with
  |inl x=>
   simp only[y]at m;obtain⟨hC,_,l⟩:=m;have z:∀w',Ld Φ vs w' i:=fun w'=>by unfold Ld;rw[y];trivial
   unfold BI at l;rw[<-hwt,<-he]at l;by_cases F:p9 o (yielded ops a.tmps)=true
   ·rw[zJ F]at l ⊢;refine .inl (NT (l w M.world hfl (fun v w'=>v=x/\Ext w w') (fun g w' D hv _ _=>⟨hv,D⟩)) fun v w' hv=>?_);obtain⟨rfl,D⟩:=hv;have:=stay (fun φ h=>by rw[y]at h;cases h) w' D (z w');rw[hC]at this;exact hK _ _ _ _ _ this
   ·rw[zI F]at l ⊢;have:=stay (fun φ h=>by rw[y]at h;cases h) w (Ext.refl w) (z w);rw[hC,<-l w]at this;exact hK _ _ _ _ _ this
  |inr φ=>
   simp only[y]at m;obtain⟨hC,_,hsb,hold,l⟩:=m;unfold BI at l;rw[<-hwt,<-he]at l
   -- a new given value for this operation
   have fresh:∀g w',Ext w w'->φ g w'->made Φ vs o w g w'->(HA o=true->¬GA w g.v)->K (a.put o.dst g.v) w':=fun g w' D hv hmd G=>by
    obtain⟨C',T',R'⟩:=hall (fun j=>if j=i then g else vs j)
    have hvs:∀j,j<n->listed.getD j false=true->vs j=(fun j=>if j=i then g else vs j) j:=fun j _ p=>by
     have:j≠i:=fun e=>by rw[e,q]at p;cases p
     simp[this]
    have H:∀j,j<n->listed.getD j false=true->Ld Φ (fun j=>if j=i then g else vs j) w j:=fun j d p=>by have O:=M.facts j d p;unfold Ld at O ⊢;have U:=hvs j d p;simp only at U ⊢;rw[<-U];exact O
    have hag:=Sb.agree S M.run R' (L:=fun j=>listed.getD j false=true) M.world M.closed hvs M.facts H;obtain⟨o2,ho2,_,I⟩:=R'.step i hi;have hC':C' i=g.v:=by unfold Nd at I;simp only[y]at I;rw[I.1];simp
    have hfr:=((M.frame.pv hag).put S hi N (by rw[q];simp)).Md fun j _=>(c j).symm;rw[hC']at hfr
    have old2:∀t,t<n->listed.getD t false=true->uB ops Φ t=true->GA w (vs t).v/\∀b,¬(vs t).f b:=fun t B p V=>by
     obtain⟨ot,hot,_,J⟩:=M.run.step t B;have hf:=M.facts t B p;unfold uB at V;rw[hot]at V;unfold Nd at J;unfold Ld at hf;cases Y:Φ t with
     |none=>rw[Y]at V;cases V
     |some x=>cases x with
      |inl x=>rw[Y]at V;cases V
      |inr ψ=>rw[Y]at V hf;simp only[Y]at J;exact J.2.2.2.1 V _ _ hf
    have old:=fun t B p V=>(old2 t B p V).1;have hni:uB ops Φ i=true->HA o=true:=fun h=>by unfold uB at h;rw[N,y]at h;exact h
    refine hK _ _ _ C' T' ⟨by simp[M.size],fun k ok hk' p u j d=>?_,fun t B hts=>by rw[getD_set_ne false (by omega)];exact M.tail t B hts,R',hfr,M.world.trans D,fun j d p=>?_,fun j d p hr b A=>?_,fun j k d Z E hlj W=>?_⟩
    ·rcases(c k).1 p with h|rfl
     ·exact getD_set_true (M.closed k ok hk' h u j d)
     ·have:o=ok:=Option.some.inj (N.symm.trans u);subst this;exact getD_set_true (r j d)
    ·rcases(c j).1 p with h|rfl
     ·exact ywA (M.run.qv d) (H j d h) D
     ·unfold Ld;rw[y];simpa using hv
    ·rcases(c j).1 p with h|rfl
     ·have s:j≠i:=fun e=>by rw[e,q]at h;cases h
      simp only[s,if_false]at A;exact cQ (M.Hr j d h hr b A) D.size
     ·simp only[if_true]at A;exact(hmd b A).1
    ·rcases(c j).1 hlj with h|rfl
     ·have s:j≠i:=fun e=>by rw[e,q]at h;cases h
      rcases(c k).1 W with X|rfl
      ·have hki:k≠i:=fun e=>by rw[e,q]at X;cases X
       have:=M.apart j k d Z E h X;unfold wB at this ⊢;simpa only[s,hki,if_false]using this
      ·unfold wB;simp only[s,if_false,if_true];refine⟨fun fj fk e=>G (hni fk) (e▸old j d h fj),fun rj fk b o' e A=>?_⟩;exact G (hni fk) ⟨b,o',e,M.Hr j d h rj b A⟩
     ·rcases(c k).1 W with X|rfl
      ·have hki:k≠j:=fun e=>E e.symm;unfold wB;simp only[hki,if_false,if_true];refine⟨fun fj fk e=>G (hni fj) (e▸old k Z X fk),fun _ fk b o' e A=>?_⟩;rcases(hmd b A).2 with h3|⟨t,B,hrt,htb⟩
       ·obtain⟨b2,o2',e2,hlt2⟩:=old k Z X fk;rw[e]at e2;injection e2 with e2;injection e2 with e2;injection e2 with e2 _;omega
       ·have htn:t<n:=by have:=hlt t B;omega
        by_cases htk:t=k
        ·subst htk;exact(old2 t htn (r t B) fk).2 b htb
        ·exact(M.apart t k htn Z htk (r t B) X).2 hrt fk b o' e htb
      ·exact absurd rfl E
   by_cases F:p9 o (yielded ops a.tmps)=true
   ·rw[zJ F]at l ⊢;exact .inl (NT (l w M.world hfl (fun v w'=>K (a.put o.dst v) w') fresh) fun v w' hv=>hv)
   ·rw[zI F]at l ⊢;refine fresh ⟨undef,fun _=>false⟩ w (Ext.refl w) (l w) (fun _ h=>absurd h iJ) fun hn=>?_;rintro⟨b,o',he',_⟩;cases he'
def bh(n:Nat)(listed:Array Bool):Nat:=(dJ n).countP fun j=>!listed.getD j false
theorem SY{listed:Array Bool}{i:Nat}(b:i<n)(c:i<listed.size)(d:listed.getD i false=false):
  bh n listed=bh n (listed.setIfInBounds i true)+1:=
 yuZ _ _ i (by rw[d];rfl) (by simp[c]) (fun j e=>by rw[getD_set_ne false (Ne.symm e)]) _ List.nodup_range (dF.2 b)
theorem TY{p:Nat->Bool}:∀m,(∃i,i<m/\p i=false)->∃i,i<m/\p i=false/\∀j,j<i->p j=true
 |0,⟨i,c,_⟩=>by omega
 |m+1,⟨i,c,hp⟩=>by
  by_cases h:∃j,j<m/\p j=false
  ·obtain⟨j,f,d,e⟩:=TY m h;exact⟨j,by omega,d,e⟩
  ·refine⟨i,c,hp,fun j g=>?_⟩;cases b:p j with
   |true=>rfl|false=>exact absurd ⟨j,by omega,b⟩ h
theorem TM{listed:Array Bool}(h:bh n listed=0)(i:Nat)(b:i<n):listed.getD i false=true:=by unfold bh at h;rw[iD]at h;have:=h i (dF.2 b);simpa using this
theorem UY{Q:Exit->Act->World->Prop}{a0:Act}(hX:(Φ xm).isSome=false)(S:Jk ops n)(hall:∀vs,∃C T,Sb P ops n Φ w0 a0 vs C T) (hend:∀listed a w vs C T,Mid P ops n Φ w0 a0 listed a w vs C T->bh n listed=0->wpAny P .any ops (j5 Q) (ops.size-n) listed a w):∀(m:Nat) (listed:Array Bool) (a:Act) (w:World) (vs:Nat->Gv) (C:Nat->Value) (T:Nat->Act),bh n listed=m->Mid P ops n Φ w0 a0 listed a w vs C T ->
   wpAny P .any ops (j5 Q) (m+(ops.size-n)) listed a w
 |0,listed,a,w,vs,C,T,hm,M=>by rw[aV];exact hend _ _ _ _ _ _ M hm
 |m+1,listed,a,w,vs,C,T,hm,M=>by
  have D:∀i,i<n->i<listed.size:=fun i s=>by rw[M.size];exact cQ s S.le
  have hex:∃i,i<n/\listed.getD i false=false:=by
   have:¬bh n listed=0:=by omega
   unfold bh at this;rw[iD]at this;have h2:∃i,¬(i∈dJ n->¬((!listed.getD i false)=true)):=Classical.not_forall.1 this;obtain⟨i,h⟩:=h2;by_cases s:i<n
   ·refine⟨i,s,?_⟩;cases hp:listed.getD i false with
    |false=>rfl|true=>exact absurd (fun _=>by rw[hp];simp) h
   ·exact absurd (fun hmem=>absurd (dF.1 hmem) s) h
  obtain⟨i,s,hu,g⟩:=TY n hex;have J:∀v,ops[i]? = some v->i∈Region.ready .any ops listed:=fun v d=>
   mem_ready.2 ⟨by rw[QM (D i s)];exact hu,v,d,fun e K L=>g _ (S.Z8 i v s d _ (NM.2 ⟨e,K,L,rfl⟩))⟩
  obtain⟨v,d,_,c⟩:=M.run.step i s;have O:=J v d;rw[show m+1+(ops.size-n)=(m+(ops.size-n))+1 by omega]
  -- is there one that does not float, and is not listed?
  by_cases U:∃k,k<n/\listed.getD k false=false/\Wc ops n k=false
  ·refine⟨fun h0=>(by rw[h0]at O;cases O),fun j y=>?_⟩;have u:j<n:=by
    rcases fK j n with h|h
    ·exact h
    ·exfalso;obtain⟨_,oj,z,E⟩:=mem_ready.1 y;obtain⟨k,G,hku,V⟩:=U;rcases Nat.eq_or_lt_of_le h with h|h
     ·subst h;unfold Wc at V;simp only[z,jE,cI,zE]at V;have hall:∀q∈OM ops n (Nb oj),listed.getD q false=true:=
       MT (p:=fun q=>listed.getD q false=true) (N:=n) (fun q oq hqj hq hoq r hr=>M.closed q oq hqj hq hoq r hr) n _ (aL _) (fun q hq=>by
        obtain⟨e,K,L,W⟩:=NM.1 hq
        rw[<-W];exact E e K L)
      have:=hall k V;rw[hku]at this;cases this
     ·have hj1:=S.chain j oj h z;obtain⟨e,K,L,W⟩:=NM.1 hj1;have:=E e K L;rw[W,M.tail (j-1) (by omega) (by have:=(aT.1 z).1;omega)]at this;cases this
   refine M.comes S hall u y fun a' w' vs' C' T' M'=>?_;have X:listed.getD j false=false:=by rw[<-QM (D j u)];exact(mem_ready.1 y).1
   have:=SY u (D j u) X;exact UY hX S hall hend m _ _ _ _ _ _ (by omega) M'
  ·-- all that is left of the head Wc: the first is taken first
   have A:Wc ops n i=true:=by
    cases h:Wc ops n i with
    |true=>rfl|false=>exact absurd ⟨i,s,hu,h⟩ U
   have H:∀j∈Nb v,listed.getD j false=true:=fun j y=>g j (S.Z8 i v s d j y);have Y:=M.frame.same S (M.run.holds S i (by omega)) s d H (S.Z8 i v s d);obtain⟨K,hwt⟩:=HO (fun cs b=>AI S.ov i v cs b d) Y;have hy:Yields P ops v (C i) a/\Φ i=none:=by
    unfold Nd at c;cases G:Φ i with
    |none=>simp only[G]at c;unfold PM at c;rw[zJ A]at c;have hY:Yields P ops v (C i) (T i):=c.imp (fun⟨h1,h2⟩=>⟨h1,fun w=>h2 w (fun h=>by rw[hX]at h;cases h)⟩) id;exact⟨hY.of_same K hwt,rfl⟩|some x=>
     cases x with
     |inl x=>simp only[G]at c;rw[c.2.1]at A;cases A
     |inr φ=>simp only[G]at c;rw[c.2.1]at A;cases A
   have hun:bh n listed=bh n (listed.setIfInBounds i true)+1:=SY s (D i s) hu
   have f:∀j,(listed.setIfInBounds i true).getD j false=true↔listed.getD j false=true∨j=i:=fun j=>by
    by_cases Z:j=i
    ·subst Z;simp[D j s]
    ·rw[getD_set_ne false (Ne.symm Z)];simp[Z]
   have M':Mid P ops n Φ w0 a0 (listed.setIfInBounds i true) (a.put v.dst (C i)) w vs C T:=
    { size:=by simp[M.size]
      closed:=fun k ok G hl I j y=>by
       rcases(f k).1 hl with h|rfl
       ·exact getD_set_true (M.closed k ok G h I j y)
       ·have:v=ok:=Option.some.inj (d.symm.trans I);subst this;exact getD_set_true (H j y)
      tail:=fun t ht hts=>by rw[getD_set_ne false (by omega)];exact M.tail t ht hts
      run:=M.run
      frame:=(M.frame.put S s d (by rw[hu];simp)).Md fun j _=>(f j).symm
      world:=M.world
      facts:=fun j y hl=>by
       rcases(f j).1 hl with h|rfl
       ·exact M.facts j y h
       ·unfold Ld;rw[hy.2];trivial
      Hr:=fun j y hl hrr b L=>by
       rcases(f j).1 hl with h|rfl
       ·exact M.Hr j y h hrr b L
       ·exact absurd hrr (by rw[MO (fun φ e=>by rw[hy.2]at e;cases e)];simp)
      apart:=fun j k y G hjk hlj hlk=>by
       have hnr:qb Φ i=false:=MO (fun φ e=>by rw[hy.2]at e;cases e);rcases(f j).1 hlj with h|rfl
       ·rcases(f k).1 hlk with h'|rfl
        ·exact M.apart j k y G hjk h h'
        ·exact .LO hnr
       ·exact .JO hnr }
   refine wpAny_first d (AI S.ov) (fun _ _ _ h=>h) _ listed a w ?_ O hy.1 (UY hX S hall hend m _ _ _ _ _ _ (by omega) M');intro j oj z hne X hno;refine Region.free_spec d (S.free i s A) j oj z hne ?_ hno;have hjs:j<ops.size:=(aT.1 z).1;have F:listed.getD j false=false:=by rw[<-QM (by rw[M.size];exact hjs)];exact X
   simp only[iG,Array.getElem?_map,Array.getElem?_range,hjs,if_true,Option.map_some,Option.getD_some,Bool.and_eq_false_iff,decide_eq_false_iff_not,Bool.or_eq_false_iff,jE];by_cases u:j<n
   ·right;have h1:Wc ops n j=true:=by
     cases h:Wc ops n j with
     |true=>rfl|false=>exact absurd ⟨j,u,F,h⟩ U
    refine⟨h1,fun hlt=>?_⟩;rw[g j hlt]at F;cases F
   ·exact .inl u
end
def b9(P:Program)(l:List Oper)(Q:Exit->Act->World->Prop)(a:Act)(w:World):Prop:=wpAny P .any l.toArray (j5 Q) l.toArray.size (fQ l.toArray.size false) a w.drew
theorem b9.wp{P:Program}{id:Nat}{l:List Oper}{Q:Exit->Act->World->Prop}{a:Act}{w:World}(b:P.follows .mixedOrders=true)(h:b9 P l Q a w):(Code.region id l.toArray true).wp P Q a w:=
 Code.wp_mono j5.imp (wp_region_any b h)
theorem xB{P:Program}{l:List Oper}{Q:Exit->Act->World->Prop}{a:Act}{w:World}(n:Nat)(Φ:Oa)(V:(Φ xm).isSome=false)(hB:rB l.toArray n=true) (h:∀vs,vd P l.toArray n Φ w.drew vs (fun x=>∀w',Ext w.drew w'->de Φ vs w' (dJ n)->wh l.toArray n Φ vs->wpList P l.toArray (j5 Q) (l.drop n) x w') 0 (l.take n) a):
  b9 P l Q a w:=by
 have S:=sB hB;unfold b9;have z:n<=l.length:=by simpa using S.le
 have p:(l.take n).length=n:=by simp[z]
 have u:∀j o,(l.take n)[j]? = some o->l.toArray[0+j]? = some o:=fun j o d=>by
  rw[aV,List.getElem?_toArray];rw[List.getElem?_take]at d;split at d
  ·exact d
  ·cases d
 have q:∀vs,∃C T,Sb P l.toArray n Φ w.drew a vs C T/\∀w',Ext w.drew w'->de Φ vs w' (dJ n)->wh l.toArray n Φ vs->wpList P l.toArray (j5 Q) (l.drop n) (T n) w':=fun vs=>by obtain⟨C,T,W,A,y⟩:=Zn (l.take n) 0 a u (h vs);rw[p,aV]at y;exact⟨C,T,⟨W,fun i I=>A i (bG _) (by rw[p];omega)⟩,y⟩
 have f:∀vs,∃C T,Sb P l.toArray n Φ w.drew a vs C T:=fun vs=>let⟨C,T,R,_⟩:=q vs;⟨C,T,R⟩;have b:∀j,(fQ l.toArray.size false).getD j false=false:=fun j=>getD_replicate_false _ _;obtain⟨C,T,R⟩:=f (fun _=>⟨undef,fun _=>false⟩)
 have X:Mid P l.toArray n Φ w.drew a (fQ l.toArray.size false) a w.drew (fun _=>⟨undef,fun _=>false⟩) C T:=
  ⟨by simp,fun i Z _ c=>(by rw[b]at c;cases c),fun t _ _=>b t,R,
   ⟨rfl,fun _ _=>rfl,fun j oj t _ c=>(by rw[b]at c;cases c)⟩,Ext.refl _,fun j _ c=>(by rw[b]at c;cases c),fun j _ c=>(by rw[b]at c;cases c),fun j _ _ _ _ c=>(by rw[b]at c;cases c)⟩
 have m:bh n (fQ l.toArray.size false)=n:=by unfold bh;rw[List.countP_eq_length.2 (fun j _=>by rw[b];rfl)];simp
 have:=UY (Q:=Q) V S f (fun listed x w' vs C T M v=>?_) n _ a w.drew _ C T m X
 ·have e:n+(l.toArray.size-n)=l.toArray.size:=by have:=S.le;omega
  rw[e]at this;exact this
 ·-- the tail
  obtain⟨Y,J,K,y⟩:=q vs
  have r:listed=(fU l.toArray.size).map fun j=>decide (j<n):=by
   apply Array.ext (by simp[M.size]);intro i N h2;have I:i<l.toArray.size:=by rw[<-M.size];exact N
   have O:listed.getD i false=listed[i]:=by simp[N]
   simp only[Array.getElem_map,Array.getElem_range];by_cases s:i<n
   ·rw[<-O,TM v i s];simp[s]
   ·rw[<-O,M.tail i (by omega) I];simp[s]
  have B:=Sb.agree S M.run K (L:=fun j=>listed.getD j false=true) M.world M.closed (fun _ _ _=>rfl) M.facts M.facts;have D:Holds l.toArray n a x Y (fun j=>j<n):=(M.frame.pv B).Md fun j d=>⟨fun _=>d,fun _=>TM v j d⟩;have E:x=J n:=D.eq (K.holds S n (aL _));rw[E]
  have F:=y w' M.world (GO.2 fun j d=>M.facts j (dF.1 d) (TM v j (dF.1 d)))
   (fun j k d U G=>M.apart j k d U G (TM v j d) (TM v k U))
  have g:=S.seq;rw[<-r]at g;have H:(l.drop n).length=l.toArray.size-n:=by simp
  rw[<-H]at g ⊢;exact wpAny_of_seq (l.drop n) n listed (J n) w' (fun j=>by simp[List.getElem?_drop]) g F
theorem VY{P:Program}{id:Nat}{l:List Oper}{Q:Exit->Act->World->Prop}{a:Act}{w:World}(n:Nat)(Φ:Oa)(b:(Φ xm).isSome=false)(c:P.follows .mixedOrders=true)(hB:rB l.toArray n=true) (h:∀vs,vd P l.toArray n Φ w.drew vs (fun d=>∀w',Ext w.drew w'->de Φ vs w' (dJ n)->wh l.toArray n Φ vs->wpList P l.toArray (j5 Q) (l.drop n) d w') 0 (l.take n) a):(Code.region id l.toArray true).wp P Q a w:=(xB n Φ b hB h).wp c
end
section
theorem OT{Q:Exit->Act->World->Prop}{a:Act}{w:World}(h:Q .normal a w):j5 Q .normal a w:=h
def CI(φ:Value->World->Prop):Gv->World->Prop:=fun g w=>φ g.v w/\∀b,¬g.f b
def WY:Sum Value (Value->World->Prop)->Sum Value (Gv->World->Prop)
 |.inl c=>.inl c|.inr b=>.inr (CI b)
def kinds(l:List (Nat×Sum Value (Value->World->Prop))):Oa:=fun k=>(l.find? fun p=>p.1==k).map fun p=>WY p.2
section
variable {P:Program}{ops:Array Oper}{n:Nat}{Φ:Oa}{w0:World}{vs:Nat->Gv}{Fin:Act->Prop}{k:Nat}{o:Oper}{rest:List Oper}{a:Act}
theorem tv{c:Value}(hk:Φ k=none)(b:Wc ops n k=false)(d:p9 o (yielded ops a.tmps)=true) (h:∀w,Ext w0 w->de Φ vs w (Nb o)->(execOp a.eval o).run P w = .ok (.value c) w) (e:vd P ops n Φ w0 vs Fin (k+1) rest (a.put o.dst c)):
  vd P ops n Φ w0 vs Fin k (o::rest) a:=by
 unfold vd;simp only[hk];refine⟨c,?_,e⟩;unfold PM;rw[zI (by simp[b])];exact .inl ⟨d,h⟩
theorem yB{φ:Gv->World->Prop}(hk:Φ k=some (.inr φ))(c:Wc ops n k=false)(d:∀v w w',φ v w->Ext w w'->φ v w')(e:p9 o (yielded ops a.tmps)=true) (i:HA o=true->∀g w,φ g w->GA w g.v/\∀b,¬g.f b) (h:∀w,Ext w0 w->de Φ vs w (Nb o)->∀R:Value->World->Prop,(∀g w',Ext w w'->φ g w'->made Φ vs o w g w'->(HA o=true->¬GA w g.v)->R g.v w')->outcome P R ((execOp a.eval o).run P w)) (j:vd P ops n Φ w0 vs Fin (k+1) rest (a.put o.dst (vs k).v)):vd P ops n Φ w0 vs Fin k (o::rest) a:=by unfold vd;simp only[hk];refine⟨c,d,i,?_,j⟩;unfold BI;rw[zJ e];exact h
theorem AB{φ:Value->World->Prop}(hk:Φ k=some (.inr (CI φ)))(b:Wc ops n k=false)(f:∀v w w',φ v w->Ext w w'->φ v w')(g:p9 o (yielded ops a.tmps)=true) (i:HA o=true->∀v w,φ v w->GA w v) (h:∀w,Ext w0 w->de Φ vs w (Nb o)->∀R:Value->World->Prop,(∀v w',Ext w w'->φ v w'->(HA o=true->¬GA w v)->R v w')->outcome P R ((execOp a.eval o).run P w)) (j:vd P ops n Φ w0 vs Fin (k+1) rest (a.put o.dst (vs k).v)):vd P ops n Φ w0 vs Fin k (o::rest) a:=
 yB hk b (fun _ _ _ h c=>⟨f _ _ _ h.1 c,h.2⟩) g (fun d _ _ h=>⟨i d _ _ h.1,h.2⟩)
  (fun w c l R m=>h w c l R fun v w' e p d=>m ⟨v,fun _=>false⟩ w' e ⟨p,fun _ h=>absurd h iJ⟩ (fun _ h=>absurd h iJ) d) j
end
theorem ywP{Φ:Oa}{vs:Nat->Gv}{w:World}{l:List Nat}(h:de Φ vs w l)(j:Nat)(b:l.contains j=true):Ld Φ vs w j:=
 GO.1 h j (by simpa using b)
theorem xcF{Φ:Oa}{vs:Nat->Gv}{w:World}{l:List Nat}(h:de Φ vs w l)(j:Nat){φ:Gv->World->Prop}(hk:Φ j=some (.inr φ))(b:l.contains j=true):φ (vs j) w:=by have:=ywP h j b;unfold Ld at this;rw[hk]at this;exact this
theorem vv{Φ:Oa}{vs:Nat->Gv}{w:World}{l:List Nat}(h:de Φ vs w l)(j:Nat){φ:Value->World->Prop}(hk:Φ j=some (.inr (CI φ)))(b:l.contains j=true):φ (vs j).v w:=(xcF h j hk b).1
theorem Ext.cells{w w':World}(h:Ext w w'):(∀b o,b<w.heap.size->w'.cell? ⟨b,o,none⟩=w.cell? ⟨b,o,none⟩)/\(∀b o,b<w.heap.size->w'.frozen? ⟨b,o,none⟩=w.frozen? ⟨b,o,none⟩):=
 ⟨fun b o c=>Below.cell (p:=⟨b,o,none⟩) h c,fun b o c=>Below.frozen (p:=⟨b,o,none⟩) h c⟩
theorem Ext.below{B:Nat}{w w':World}(h:Ext w w')(hB:B<=w.heap.size):Below B w w':=Below.mono h hB
end
abbrev FM:=List (Nat×Value)
def look:FM->Nat->Value
 |[],_=>undef|(d,v)::m,t=>bif Nat.beq d t then v else look m t
def fr(n:Nat)(m:FM):Act:={ tmps:=jO (n:=n) fun i=>look m i.val,defers:=[] }
def o0(n:Nat)(m:FM):Operand->Value
 |.tmp t=>bif cY t n then look m t else undef
 |.const v=>v|.global g=>.pointer (some ⟨g,0,none⟩)|.func f=>.func (.func f) #[] #[]
theorem eo{a b:Nat}:cY a b=decide (a<b):=by rw[dS];simp[cY,Nat.succ_le_iff,Nat.ble_eq]
theorem Hu{a b:Nat}:Nat.beq a b=decide (a=b):=by rw[dS];simp
theorem fo(n:Nat)(m:FM):(fr n m).eval=o0 n m:=by
 funext x;cases x with
 |tmp t=>
  simp only[Act.eval,fr,o0,eo];by_cases h:t<n
  ·simp[h]
  ·simp[h]
 |_=>rfl
theorem ZF(n:Nat)(m:FM)(d:Nat)(v:Value):(fr n m).put (some d) v=fr n ((d,v)::m):=by
 have e:(jO (n:=n) fun i=>look m i.val).setIfInBounds d v=jO (n:=n) fun i=>look ((d,v)::m) i.val:=by apply gJ;intro i;simp only[Array.getElem?_setIfInBounds,jA,look,Hu,Array.size_ofFn];by_cases h:d=i<;>by_cases b:i<n<;>simp_all
 simp only[fr,Act.put,e]
theorem yuH(n:Nat)(m:FM)(v:Value):(fr n m).put none v=fr n m:=rfl
theorem BB(n:Nat)(m:FM)(t:Nat):(fr n m).tmps[t]? = if t<n then some (look m t)else none:=by simp[fr,jA]
theorem io(n:Nat)(m:FM)(t:Nat):(fr n m).tmps.getD t undef=o0 n m (.tmp t):=by rw[<-fo];rfl
def Ca:LV->Nat->FM
 |[],_=>[]|v::l,i=>(i,v)::Ca l (i+1)
theorem Ir(l:LV):∀(i t:Nat),look (Ca l i) t=if i<=t then l.getD (t-i) undef else undef:=by
 induction l with
 |nil=>intro i t;simp[Ca,look]|cons v l c=>
  intro i t;simp only[Ca,look,Hu,c];by_cases h:i=t
  ·subst h;simp
  ·by_cases b:i<=t
   ·have e:t-i=(t-(i+1))+1:=by omega
    simp[h,b,show i+1<=t by omega,e]
   ·simp[h,b,show ¬i+1<=t by omega]
theorem enter{P:Program}{f:FuncId}{fn:Func}{c:Code}{n:Nat}{args:LV}{w:World}{R:Ending->World->Prop} (hf:P.funcs[f]? = some fn) (d:fn.body=some c) (g:fn.ntmps=n) (j:Nat.ble args.length n=true) (h:c.wp P (bodyPost P fn R) (fr n (Ca args 0)) w):Calls P f args.toArray w R:=by
 refine calls_of_wp hf d ?_;have l:args.length<=n:=Nat.le_of_ble_eq_true j;have e:({ tmps:=args.toArray++fQ (fn.ntmps-args.toArray.size) undef,defers:=[] }:Act)=fr n (Ca args 0):=by
  unfold fr;congr 1;apply Array.ext
  ·simp[g];omega
  ·intro i m p;simp only[Array.getElem_append,Array.getElem_replicate,Array.getElem_ofFn,Ir,bG,if_true,Nat.sub_zero];by_cases b:i<args.length
   ·simp[b,List.getD]
   ·simp[b,List.getD]
 rw[e];exact h
abbrev ja:=Nat×LV×TypeId
def lk:List ja->Nat->Option ja
 |[],_=>none|e::_,0=>some e|_::l,k+1=>lk l k
def st:List ja->Nat->ja->List ja
 |[],_,_=>[]|_::l,0,e=>e::l|x::l,k+1,e=>x::st l k e
theorem NO{e:ja}:∀{l:List ja} {k:Nat} {x:ja},lk l k=some x->lk (st l k e) k=some e
 |[],_,_,h=>by cases h
 |_::_,0,_,_=>rfl|_::l,k+1,_,h=>NO (l:=l) (k:=k) h
theorem OO{e:ja}:∀{l:List ja} {k j:Nat},j≠k->lk (st l k e) j=lk l j
 |[],_,_,_=>rfl|_::_,0,0,h=>absurd rfl h|_::_,0,_+1,_=>rfl|_::_,_+1,0,_=>rfl|_::l,k+1,j+1,h=>OO (l:=l) (by omega)
structure HP (w0 w:World) (L:List ja):Prop where
 below:Below w0.heap.size w0 w
 N':∀k b cs T,lk L k=some (b,cs,T)->w.heap[b]? = some (.cells cs.toArray T (0,0))/\w0.heap.size<=b
 inj:∀i j b cs T cs' T',lk L i=some (b,cs,T)->lk L j=some (b,cs',T')->i=j
theorem Iu{w:World}{b:Nat}{o:Obj}(h:w.heap[b]? = some o):b<w.heap.size:=by
 rcases fK b w.heap.size with c|c
 ·exact c
 ·simp[gO c]at h
theorem HP.start(w:World):HP w w []:=⟨Below.refl _ _,fun _ _ _ _ h=>(by cases h),fun _ _ _ _ _ _ _ h=>(by cases h)⟩
theorem HP.ext{w0 w w':World}{L:List ja}(h:HP w0 w L)(c:Ext w w'):HP w0 w' L:=
 ⟨h.below.trans (Below.mono c h.below.size),fun k b e T f=>by
  obtain⟨d,g⟩:=h.N' k b e T f
  exact⟨by rw[Below.block c b (Iu d)];exact d,g⟩,h.inj⟩
theorem Ext.drew(w:World):Ext w w.drew:=Below.drew (Below.refl _ _)
theorem Ext.alloc(w:World)(o:Obj):Ext w (w.alloc o):=Below.alloc (Below.refl _ _) (aL _) o
theorem HP.drew{w0 w:World}{L:List ja}(h:HP w0 w L):HP w0 w.drew L:=h.ext (Ext.drew w)
theorem Od(w:World)(o:Obj):(w.alloc o).heap[w.heap.size]? = some o:=by show(w.heap.push o)[w.heap.size]? = _;simp
theorem HP.push{w0 w w':World}{L:List ja}{b:Nat}{cs:LV}{T:TypeId}(h:HP w0 w L)(r:Ext w w')(s:w.heap.size<=b)(t:w'.heap[b]? = some (.cells cs.toArray T (0,0))):
  HP w0 w' ((b,cs,T)::L):=by
 have p:=h.ext r;refine⟨p.below,?_,?_⟩
 ·intro k g l u m;cases k with
  |zero=>simp only[lk,Option.some.injEq,Prod.mk.injEq]at m;obtain⟨rfl,rfl,rfl⟩:=m;exact⟨t,bB h.below.size s⟩
  |succ k=>exact p.N' k g l u m
 ·intro i j g c q d T2 e f;cases i with
  |zero=>
   cases j with
   |zero=>rfl|succ j=>simp only[lk,Option.some.injEq,Prod.mk.injEq]at e;obtain⟨rfl,_,_⟩:=e;have:=Iu (h.N' j b d T2 f).1;omega
  |succ i=>
   cases j with
   |zero=>simp only[lk,Option.some.injEq,Prod.mk.injEq]at f;obtain⟨rfl,_,_⟩:=f;have:=Iu (h.N' i b c q e).1;omega
   |succ j=>rw[h.inj i j g c q d T2 e f]
theorem HP.alloc{w0 w:World}{L:List ja}(h:HP w0 w L)(cs:LV)(T:TypeId):HP w0 (w.alloc (.cells cs.toArray T)) ((w.heap.size,cs,T)::L):=
 h.push (Ext.alloc w _) (aL _) (Od w _)
theorem HP.set{w0 w w':World}{L:List ja}{k b:Nat}{cs cs':LV}{T:TypeId}(h:HP w0 w L)(hk:lk L k=some (b,cs,T))(p:w'.heap.size=w.heap.size)(q:w'.os=w.os)(r:w'.tape=w.tape)(s:w'.output=w.output) (C:w'.heap[b]? = some (.cells cs'.toArray T (0,0))) (z:∀i,i≠b->w'.heap[i]? = w.heap[i]?):HP w0 w' (st L k (b,cs',T)):=by
 have hB:=(h.N' k b cs T hk).2;refine⟨⟨q.trans h.below.os,r.trans h.below.tape,s.trans h.below.output,by rw[p];exact h.below.size,fun i d=>by rw[z i (by omega)];exact h.below.block i d⟩,?_,?_⟩
 ·intro j f c A g;by_cases l:j=k
  ·subst l;rw[NO hk]at g;simp only[Option.some.injEq,Prod.mk.injEq]at g;obtain⟨rfl,rfl,rfl⟩:=g;exact⟨C,hB⟩
  ·rw[OO l]at g;obtain⟨D,E⟩:=h.N' j f c A g;have t:f≠b:=fun e=>l (h.inj j k f c A cs T g (e▸hk));exact⟨by rw[z f t];exact D,E⟩
 ·intro i j f I u B T2 d g
  have key:∀i c u,lk (st L k (b,cs',T)) i=some (f,c,u)->∃B T2,lk L i=some (f,B,T2):=fun i c u d=>by
   by_cases m:i=k
   ·subst m;rw[NO hk]at d;simp only[Option.some.injEq,Prod.mk.injEq]at d;exact⟨cs,T,d.1▸hk⟩
   ·rw[OO m]at d;exact⟨_,_,d⟩
  obtain⟨x,y,F⟩:=key i _ _ d;obtain⟨G,H,v⟩:=key j _ _ g;exact h.inj i j f x y G H F v
theorem XY:∀(N L:List ja) (k:Nat),lk (N++L) k=if k<N.length then lk N k else lk L (k-N.length)
 |[],L,k=>by simp
 |e::N,L,0=>rfl|e::N,L,k+1=>by rw[List.cons_append,lk,XY N L k,lk];simp only[aQ,Nat.add_lt_add_iff_right,iX]
theorem HP.join{w0 W w:World}{L N:List ja}(h:HP w0 W L)(k:HP W w N):HP w0 w (N++L):=by
 refine⟨Below.trans h.below (k.below.mono h.below.size),fun j b m T c=>?_,fun i j b f g l T2 d c=>?_⟩
 ·rw[XY]at c;split at c
  ·have:=k.N' j b m T c;exact⟨this.1,bB h.below.size this.2⟩
  ·have e:=h.N' _ b m T c;exact⟨by rw[k.below.block b (Iu e.1)];exact e.1,e.2⟩
 ·rw[XY]at d c;split at d<;>split at c
  ·exact k.inj i j b f g l T2 d c
  ·have e:=(k.N' i b f g d).2;have p:=Iu (h.N' _ b l T2 c).1;omega
  ·have e:=(k.N' j b l T2 c).2;have p:=Iu (h.N' _ b f g d).1;omega
  ·have:=h.inj _ _ b f g l T2 d c;omega
theorem HP.tail{w0 w:World}{e:ja}{L:List ja}(h:HP w0 w (e::L)):HP w0 w L:=
 ⟨h.below,fun k=>h.N' (k+1),fun i j b d T c f g l=>by have:=h.inj (i+1) (j+1) b d T c f g l;omega⟩
theorem HP.nil{w0 w:World}{L:List ja}(h:HP w0 w L):HP w0 w []:=⟨h.below,fun _ _ _ _ h=>(by cases h),fun _ _ _ _ _ _ _ h=>(by cases h)⟩
def piece:LV->Nat->Nat->LV
 |_,_,0=>[]|[],_,_+1=>[]|v::l,0,n+1=>v::piece l 0 n|_::l,o+1,n+1=>piece l o (n+1)
def lay:LV->Nat->LV->LV
 |l,_,[]=>l|[],_,_=>[]|_::l,0,x::b=>x::lay l 0 b|v::l,o+1,x::b=>v::lay l o (x::b)
theorem P9:∀(l:LV) (o n:Nat),piece l o n=(l.drop o).take n
 |_,_,0=>by simp[piece]
 |[],_,_+1=>by simp[piece]
 |v::l,0,n+1=>by simp[piece,P9 l 0 n]
 |_::l,o+1,n+1=>by simp[piece,P9 l o (n+1)]
theorem VM:∀(l:LV) (o:Nat) (xs:LV),(lay l o xs).length=l.length
 |l,_,[]=>by cases l<;>simp[lay]
 |[],_,_::_=>by simp[lay]
 |_::l,0,x::xs=>by simp[lay,VM l 0 xs]
 |v::l,o+1,x::xs=>by simp[lay,VM l o (x::xs)]
theorem Df:∀(l:LV) (o:Nat) (xs:LV) (i:Nat),(lay l o xs)[i]? = if o<=i/\i<o+xs.length/\i<l.length then xs[i-o]? else l[i]?
 |l,o,[],i=>by
  have:lay l o []=l:=by cases l<;>rfl
  rw[this,zI (by simp;omega)]
 |[],o,_::_,i=>by simp[lay]
 |v::l,0,x::xs,i=>by
  cases i with
  |zero=>simp[lay]|succ i=>
   have:=Df l 0 xs i;simp only[lay,cD,this,bG,true_and,aQ,Nat.sub_zero];by_cases h:i<0+xs.length/\i<l.length
   ·rw[zJ h,zJ (by omega)]
   ·rw[zI h,zI (by omega)]
 |v::l,o+1,x::xs,i=>by
  cases i with
  |zero=>simp[lay]|succ i=>
   have:=Df l o (x::xs) i;simp only[lay,cD,this,aQ,iX];by_cases h:o<=i/\i<o+(xs.length+1)/\i<l.length
   ·rw[zJ h,zJ (by omega)]
   ·rw[zI h,zI (by omega)]
def wv(P:Program)(T:TypeId)(sz:Nat):Prop:=(∀w,(isAgg T).run P w = .ok true w)/\(∀w,(sizeOf T).run P w = .ok sz w)
def Xc(P:Program)(T:TypeId):Prop:=(∀w,(isAgg T).run P w = .ok false w)/\(∀w,(sizeOf T).run P w = .ok 1 w)
def DI(P:Program)(T:TypeId)(z:Value):Prop:=∀w,(zeroValue T).run P w = .ok z w
theorem yd(b o i:Nat):((⟨b,o,none⟩:Addr).add i)=⟨b,o+i,none⟩:=by simp[Addr.add]
section runs
variable {P:Program}{w:World}
theorem CB(T:TypeId)(v:Value):(Instr.box T v).run P w = .ok (.pointer (some ⟨w.heap.size,0,none⟩)) (w.alloc (.cells v.cells T)):=by simp[Instr.box,newVar,newRow]
theorem yvY{T:TypeId}{z:Value}(b:DI P T z):(Instr.alloc T true (.tuple #[])).run P w = .ok (.pointer (some ⟨w.heap.size,0,none⟩)) (w.alloc (.cells z.cells T)):=by simp[Instr.alloc,b w,newVar,newRow]
theorem YY{b:Nat}{cs:LV}{T:TypeId}{fz:Nat×Nat}(h:w.heap[b]? = some (.cells cs.toArray T fz))(i:Nat):w.cell? ⟨b,i,none⟩=cs[i]?:=by simp[World.cell?,h]
end runs
end Go.Proofs.YtopanhneegpgcaaGreatDoor
