/-
 The closed law PruneNames, run by the kernel.
-/
import Derived.Test.YtdbkadickikgjaaGreatDoorRfLit
import Derived.Test.YtdbkadickikgjaaGreatDoorRfMake
import Derived.Test.YtdbkadickikgjaaGreatDoorRfNat
import Derived.Test.YtdbkadickikgjaaGreatDoorRfIter
namespace Go.Proofs.YtdbkadickikgjaaGreatDoor.Refl
open Go Go.RowKit
namespace Abs
def tx0 : Nat := 26824410877483495583525861824654753629957208678293564121984210829725191906736420806101509505767580759163034769602598194425207943092506911156680487532667439542520964359387743605989961830932842484990237711967044525530975846346553592845962802471580569492094619227004842228436828253532963086142467946363067275145294917353739882524517249975950094460743450336367483882781350974729873032639712114604404075492135966354051326541714654237046329855445837929812854716788926432789273692251919989776565754387438514219067119551499742864686705309642243825108027853251480538849663649890535377432729715333723348557772369510678058301531421229914646488154578432142142056558704827706660121624513552113163741682058592780292
def ty0 : Nat := 105382308644587294670082955884494547260800606896153574075453928711137962689643
theorem dig0 : sumN 291 tx0 = ty0 := by kernel_rfl
def tx1 : Nat := 19530496261264945982973405539626600597503804097042102086678638808232971541942109975557110844231565001949941918894993128915407981
def ty1 : Nat := 85214934592643935062647903403281055025846863075914644632911656123809618148179
theorem dig1 : sumN 53 tx1 = ty1 := by kernel_rfl
def tx2 : Nat := 19530496261264945381746504349525294257796771318971823078503906287703084640875621263311600414891803475242508626610880920331187304
def ty2 : Nat := 40680459649455383615331372220334844262878581553978072607277657373282574755022
theorem dig2 : sumN 53 tx2 = ty2 := by kernel_rfl
def tx3 : Nat := 19530496261264944780519603159423987918089738540901544070329173767173197739809132551066089985552041948535058843005684786542702689
def ty3 : Nat := 47235190653999843749645836537509620328171836945653625876364037030370299687888
theorem dig3 : sumN 53 tx3 = ty3 := by kernel_rfl
def tx4 : Nat := 34780093101597674884735923304
def ty4 : Nat := 92718699811881274509129464285791644759133072177760017850618390591030063824820
theorem dig4 : sumN 12 tx4 = ty4 := by kernel_rfl
def tx5 : Nat := 1640911647000109620219949603267323490980346749918986418394250227843307164570008612293171602693024942592876471261205382153327041663071625205176537804151461587894277337485475587951836679755843621329476291363915503764554798804991863118652379363858714125501618698460830804224572275980651621735169715502632846835650010852944733844343595088276475650683771832261407781507005789691800744368506532117681765546947572074703716805638955128166718397787445299450602098298650823617150300529133839359580059185503654730115206120671208756405335244540056704949197930460329331146198025113933136259440322951252838287604887326800130864774147922884551769174728849059523147590817234293158093663360287882215078440893505117199204791806749167988042482306694612833533686383287875767359046841330400870803983852408031486837086805133850041542114831103487333971690194710416011139074600331488460684425643415202856764417983069540768746426361172744981045884654727268333778740692342162529866436773638676525328120417814698256189149014877937209988262172932194604353800318077810082054148
def ty5 : Nat := 74783818929437299820108996802369420971993071348552622817528215623520440116705
theorem dig5 : sumN 435 tx5 = ty5 := by kernel_rfl
def tx6 : Nat := 15053714365426960774351322722609746241006851696616587665787153935726301341262378637125757613237353294938882052698784185617942389086778446083175294066314986761364388330409414930011517517578993668021682141769687321929581828349140849636775108392081180862493212259946219653238543245369795065584010004652316606359784667643042409794600577574621824596241578656155131599119872292008982426783415460406392351366009637850143153978075957250494896236335135807987518724501811652476809521170921851028379106569183676779076931991120460869998289079248637034725885286757195105297962723894614808701618720272831187319649013903346579885224220577958657917758659659986080811660470031813397722022679681935472934759364099951237517870090534304570495733993108346988280613501359428903041716468147280599977246696239755822588594293606066355583515512486951462311618223934009757465121059701309593821625481222639099153539551331931523338581119897046685986688557442720916418999968420699345984881464400157715590509106767835298991972320011072183203120919605868592004593231872509082376063458488290842628646996821798876667853112281105515897203444439229389087832046399979575915625060604548481028
def ty6 : Nat := 73037181154983699828234629841786329396557279493934509344154890364992455612409
theorem dig6 : sumN 479 tx6 = ty6 := by kernel_rfl
def tx7 : Nat := 11742259745865182666004733584234330181895768399831872831349093210677029791577381647015944053691059401486024320217109641906875735645876594985096638901132389804348578905368452963799179306988966288528750566757776304336337268961304047808016773
def ty7 : Nat := 27607090718655714844595870437287789863894409562793402396441428162504461382965
theorem dig7 : sumN 99 tx7 = ty7 := by kernel_rfl
def tx8 : Nat := 11742259745865182304530946869582490572409836597639506322375792493675106632101934496591133767457651413533495953044849117398018862776910390762755183845011446487660162872197370984911414628771597013659913161159266880053780650336725156896779833
def ty8 : Nat := 42200966431666253717908064586684663882030865296367490235587170957570784695116
theorem dig8 : sumN 99 tx8 = ty8 := by kernel_rfl
def tx9 : Nat := 11742259745865181943057160154930650962923904795447139813402491776673183472626487346166323481224243425581610248766707510967502864058288941732193711696777674855057807076643449494703276979248001146854685822298018591606745656460463685971528505
def ty9 : Nat := 53967028850984992357982592028242173396580611770953469446841882292780640409306
theorem dig9 : sumN 99 tx9 = ty9 := by kernel_rfl
def tx10 : Nat := 12572091955722753454564442372209449399269600335504465784385590163258001649671786294738819283197392675677194261382357686291237732081245379098836797588915348794397609557697516019485185105317566408868812161519993471462376197193701979808560253787528048185
def ty10 : Nat := 34642769184967059922403735785148018201674299403315928549909971392228428376875
theorem dig10 : sumN 104 tx10 = ty10 := by kernel_rfl
def tx11 : Nat := 33011264571893054848587916829374269178095988910133204964118326562167545419319795348278998317336062097773894428927450700120333383297996539714803706291172696223716703504980247494777242146763469331862799507681783353
def ty11 : Nat := 6756585453792647228929593664971893509500208110942467064719690594337572428319
theorem dig11 : sumN 88 tx11 = ty11 := by kernel_rfl
def tx12 : Nat := 126879297138276
def ty12 : Nat := 10047139079712172392124862353203871169054847740073852518221118428381878470596
theorem dig12 : sumN 6 tx12 = ty12 := by kernel_rfl
def tx13 : Nat := 197002428084485276467017276192075695623669361100513135474375543721555712573880730255249287186439559234939934158006961787289383379883896327030553483856891244316718130917634924876212102568834191356301962007535757294709974975941551025844108973833774
def ty13 : Nat := 36979151777746103041349648636959240435712443712636930682154778136186096131747
theorem dig13 : sumN 102 tx13 = ty13 := by kernel_rfl
def tx14 : Nat := 197002428084485270402493478142431417697968234293862529002164539359459575311958706715987753255279847004949964906565290138444623196672016575536766256695988490704861875728233030355411713198759034713972177780327456827180600117730778557889001491937536
def ty14 : Nat := 6935844825625310099860708774700718475490974494478353756474241085518710618340
theorem dig14 : sumN 102 tx14 = ty14 := by kernel_rfl
def tx15 : Nat := 197002428084485264337969680092787139772267107487211922529953534997363438050036683176726219324120134774950426529282212311997632056830640973061536560298797304911642133305091189544188222261591021219784981990489143258668860890615580225270392775429980
def ty15 : Nat := 96314818411282274412056370292466042582601658591298417536734353741122340060875
theorem dig15 : sumN 102 tx15 = ty15 := by kernel_rfl
def tx16 : Nat := 13823161290786391838398097489589817834020622876420968498007775383770792969117523757197846812368091470989380249591345775154109355946259975830695908646893978168176627923965555960969308803201497176993308197085955972916232911946369951334949272835385294044422694841913
def ty16 : Nat := 1094490165055855543601217176680610947378750523216037330375170907862202737312
theorem dig16 : sumN 109 tx16 = ty16 := by kernel_rfl
def tx17 : Nat := 33011264571893054848587916829370119698479869340853742387282984785380550566060320618353630999940166423176103609414344065145440079224564883811014685536394276137791151971245406210271475092463245891289847597584166457
def ty17 : Nat := 23725280496136357163513031892124328165216026968061084382586258629156818565289
theorem dig17 : sumN 88 tx17 = ty17 := by kernel_rfl
def tx18 : Nat := 1651471464
def ty18 : Nat := 115550818129511711669908715779476521965076732449104150904492422460782844653113
theorem dig18 : sumN 4 tx18 = ty18 := by kernel_rfl
def tx19 : Nat := 439855772532
def ty19 : Nat := 75796823862184056998850296762928930818160422418705591255569202813312893558926
theorem dig19 : sumN 5 tx19 = ty19 := by kernel_rfl
noncomputable def sumTab : List (Nat × Nat × Nat) := [(291, tx0, ty0), (53, tx1, ty1), (53, tx2, ty2), (53, tx3, ty3), (12, tx4, ty4), (435, tx5, ty5), (479, tx6, ty6), (99, tx7, ty7), (99, tx8, ty8), (99, tx9, ty9), (104, tx10, ty10), (88, tx11, ty11), (6, tx12, ty12), (102, tx13, ty13), (102, tx14, ty14), (102, tx15, ty15), (109, tx16, ty16), (88, tx17, ty17), (4, tx18, ty18), (5, tx19, ty19)]
theorem sumTab_ok : ∀ p ∈ sumTab, sumN p.1 p.2.1 = p.2.2 := by
 unfold sumTab
 refine List.forall_mem_cons.2 ⟨dig0, ?_⟩
 refine List.forall_mem_cons.2 ⟨dig1, ?_⟩
 refine List.forall_mem_cons.2 ⟨dig2, ?_⟩
 refine List.forall_mem_cons.2 ⟨dig3, ?_⟩
 refine List.forall_mem_cons.2 ⟨dig4, ?_⟩
 refine List.forall_mem_cons.2 ⟨dig5, ?_⟩
 refine List.forall_mem_cons.2 ⟨dig6, ?_⟩
 refine List.forall_mem_cons.2 ⟨dig7, ?_⟩
 refine List.forall_mem_cons.2 ⟨dig8, ?_⟩
 refine List.forall_mem_cons.2 ⟨dig9, ?_⟩
 refine List.forall_mem_cons.2 ⟨dig10, ?_⟩
 refine List.forall_mem_cons.2 ⟨dig11, ?_⟩
 refine List.forall_mem_cons.2 ⟨dig12, ?_⟩
 refine List.forall_mem_cons.2 ⟨dig13, ?_⟩
 refine List.forall_mem_cons.2 ⟨dig14, ?_⟩
 refine List.forall_mem_cons.2 ⟨dig15, ?_⟩
 refine List.forall_mem_cons.2 ⟨dig16, ?_⟩
 refine List.forall_mem_cons.2 ⟨dig17, ?_⟩
 refine List.forall_mem_cons.2 ⟨dig18, ?_⟩
 refine List.forall_mem_cons.2 ⟨dig19, ?_⟩
 intro p hp
 cases hp
noncomputable def orc1L : List (Nat × (List AVal → AState → KV Unit → Option Unit)) := (40, textO (sumT sumTab) len32) :: (227, textO hexN len2) :: (66, textO (sumT sumTab) len32) :: (221, checkO 228) :: (247, cloneO) :: (43, keysO keysIts 9) :: (309, joinO) :: (464, indexO) :: (379, mulO) :: []
noncomputable def orc1T : T (List AVal → AState → KV Unit → Option Unit) := (.node (.node (.node (.node .leaf none (.node .leaf none (.node .leaf none (.node .leaf none (.node .leaf (some (cloneO)) .leaf))))) none (.node (.node (.node .leaf none (.node .leaf none (.node .leaf (some (textO hexN len2)) .leaf))) none .leaf) none (.node (.node .leaf (some (keysO keysIts 9)) .leaf) none (.node .leaf none (.node .leaf none (.node (.node .leaf (some (mulO)) .leaf) none .leaf)))))) none (.node .leaf none (.node (.node .leaf none (.node .leaf none (.node (.node (.node .leaf (some (joinO)) .leaf) none .leaf) none .leaf))) none (.node .leaf none (.node (.node .leaf none (.node .leaf (some (checkO 228)) .leaf)) none .leaf))))) none (.node (.node (.node (.node .leaf none (.node (.node .leaf none (.node .leaf none (.node .leaf (some (indexO)) .leaf))) none .leaf)) none (.node (.node .leaf (some (textO (sumT sumTab) len32)) .leaf) none .leaf)) none .leaf) none (.node (.node (.node (.node (.node .leaf (some (textO (sumT sumTab) len32)) .leaf) none .leaf) none .leaf) none .leaf) none .leaf)))
theorem orc1_eq : orc1T = tabOf orc1L := by kernel_rfl
theorem orc1_ok (W : World) : ∀ p ∈ orc1L, FuncOk ⟨Tryz.prog, compC Tryz.prog 7, 7, W⟩ Unit p.1 p.2 := by
 intro p hp
 simp only [orc1L, List.mem_cons, List.not_mem_nil, or_false] at hp
 rcases hp with rfl | rfl | rfl | rfl | rfl | rfl | rfl | rfl | rfl
 · exact sumT_ok sumTab_ok
 · exact hex_ok
 · exact sum1T_ok sumTab_ok
 · exact check_ok
 · exact clone_ok
 · exact keysAt
 · exact joinAt
 · exact indexAt
 · exact mul_ok
noncomputable def C1 : Cfg Unit := ⟨Lit.fnsT, orc1T⟩
theorem C1_ok (W : World) : CfgOk ⟨Tryz.prog, compC Tryz.prog 7, 7, W⟩ Unit C1 := cfg_ok (Lit.fns_ok W) Lit.fns_eq (orc1_ok W) orc1_eq rfl (by kernel_rfl)
theorem new_run : fcallF C1 (fexec C1 1000000) 389 [] (startA .leaf 7) (isRowK fieldL 509) = some () := by kernel_rfl
noncomputable def orc2L : List (Nat × (List AVal → AState → KV Unit → Option Unit)) := (389, newO fieldL 509) :: orc1L
noncomputable def orc2T : T (List AVal → AState → KV Unit → Option Unit) := (.node (.node (.node (.node .leaf none (.node .leaf none (.node .leaf none (.node .leaf none (.node .leaf (some (cloneO)) .leaf))))) none (.node (.node (.node .leaf none (.node .leaf none (.node .leaf (some (textO hexN len2)) .leaf))) none .leaf) none (.node (.node .leaf (some (keysO keysIts 9)) .leaf) none (.node .leaf none (.node .leaf none (.node (.node .leaf (some (mulO)) .leaf) none .leaf)))))) none (.node .leaf none (.node (.node (.node (.node (.node .leaf none (.node .leaf (some (newO fieldL 509)) .leaf)) none .leaf) none .leaf) none (.node .leaf none (.node (.node (.node .leaf (some (joinO)) .leaf) none .leaf) none .leaf))) none (.node .leaf none (.node (.node .leaf none (.node .leaf (some (checkO 228)) .leaf)) none .leaf))))) none (.node (.node (.node (.node .leaf none (.node (.node .leaf none (.node .leaf none (.node .leaf (some (indexO)) .leaf))) none .leaf)) none (.node (.node .leaf (some (textO (sumT sumTab) len32)) .leaf) none .leaf)) none .leaf) none (.node (.node (.node (.node (.node .leaf (some (textO (sumT sumTab) len32)) .leaf) none .leaf) none .leaf) none .leaf) none .leaf)))
theorem orc2_eq : orc2T = tabOf orc2L := by kernel_rfl
theorem orc2_ok (W : World) : ∀ p ∈ orc2L, FuncOk ⟨Tryz.prog, compC Tryz.prog 7, 7, W⟩ Unit p.1 p.2 := by
 intro p hp
 rcases List.mem_cons.1 hp with rfl | hp
 · exact new_ok Tryz.func389 (by kernel_rfl) rfl C1_ok (by kernel_rfl) (by kernel_rfl) new_run
 · exact orc1_ok W p hp
noncomputable def C2 : Cfg Unit := ⟨Lit.fnsT, orc2T⟩
theorem C2_ok (W : World) : CfgOk ⟨Tryz.prog, compC Tryz.prog 7, 7, W⟩ Unit C2 := cfg_ok (Lit.fns_ok W) Lit.fns_eq (orc2_ok W) orc2_eq rfl (by kernel_rfl)
noncomputable def orc3L : List (Nat × (List AVal → AState → KV Unit → Option Unit)) := (182, foundO (fcallF C2 (fexec C2 1000000))) :: (210, makeOF (sumT sumTab) (fcallF C2 (fexec C2 1000000)) 7) :: orc2L
noncomputable def orc3T : T (List AVal → AState → KV Unit → Option Unit) := (.node (.node (.node (.node .leaf none (.node .leaf none (.node .leaf none (.node .leaf none (.node .leaf (some (cloneO)) .leaf))))) none (.node (.node (.node .leaf none (.node .leaf none (.node .leaf (some (textO hexN len2)) .leaf))) none .leaf) none (.node (.node .leaf (some (keysO keysIts 9)) .leaf) none (.node .leaf none (.node .leaf none (.node (.node .leaf (some (mulO)) .leaf) none .leaf)))))) none (.node .leaf none (.node (.node (.node (.node (.node .leaf none (.node .leaf (some (newO fieldL 509)) .leaf)) none .leaf) none .leaf) none (.node .leaf none (.node (.node (.node .leaf (some (joinO)) .leaf) none .leaf) none .leaf))) none (.node .leaf none (.node (.node .leaf none (.node .leaf (some (checkO 228)) .leaf)) none .leaf))))) none (.node (.node (.node (.node .leaf none (.node (.node .leaf none (.node .leaf none (.node .leaf (some (indexO)) .leaf))) none .leaf)) none (.node (.node .leaf (some (textO (sumT sumTab) len32)) .leaf) none .leaf)) none .leaf) none (.node (.node (.node (.node (.node .leaf (some (textO (sumT sumTab) len32)) .leaf) none .leaf) none (.node (.node .leaf none (.node .leaf (some (makeOF (sumT sumTab) (fcallF C2 (fexec C2 1000000)) 7)) .leaf)) none .leaf)) none .leaf) none (.node (.node .leaf none (.node .leaf none (.node (.node .leaf (some (foundO (fcallF C2 (fexec C2 1000000)))) .leaf) none .leaf))) none .leaf))))
theorem orc3_eq : orc3T = tabOf orc3L := by kernel_rfl
theorem orc3_ok (W : World) : ∀ p ∈ orc3L, FuncOk ⟨Tryz.prog, compC Tryz.prog 7, 7, W⟩ Unit p.1 p.2 := by
 intro p hp
 rcases List.mem_cons.1 hp with rfl | hp
 · exact found_ok (C2_ok W) (by kernel_rfl) (by kernel_rfl) (by kernel_rfl) (by kernel_rfl)
 rcases List.mem_cons.1 hp with rfl | hp
 · exact makeOF_ok (sumT_eq sumTab_ok) C2_ok (by kernel_rfl)
 exact orc2_ok W p hp
noncomputable def C3 : Cfg Unit := ⟨Lit.fnsT, orc3T⟩
theorem C3_ok (W : World) : CfgOk ⟨Tryz.prog, compC Tryz.prog 7, 7, W⟩ Unit C3 := cfg_ok (Lit.fns_ok W) Lit.fns_eq (orc3_ok W) orc3_eq rfl (by kernel_rfl)
noncomputable def orc4L : List (Nat × (List AVal → AState → KV Unit → Option Unit)) := (191, caughtO [192] (fcallF C3 (fexec C3 1000000))) :: orc3L
noncomputable def orc4T : T (List AVal → AState → KV Unit → Option Unit) := (.node (.node (.node (.node (.node (.node (.node .leaf none (.node .leaf (some (caughtO [192] (fcallF C3 (fexec C3 1000000)))) .leaf)) none .leaf) none .leaf) none (.node .leaf none (.node .leaf none (.node .leaf none (.node .leaf (some (cloneO)) .leaf))))) none (.node (.node (.node .leaf none (.node .leaf none (.node .leaf (some (textO hexN len2)) .leaf))) none .leaf) none (.node (.node .leaf (some (keysO keysIts 9)) .leaf) none (.node .leaf none (.node .leaf none (.node (.node .leaf (some (mulO)) .leaf) none .leaf)))))) none (.node .leaf none (.node (.node (.node (.node (.node .leaf none (.node .leaf (some (newO fieldL 509)) .leaf)) none .leaf) none .leaf) none (.node .leaf none (.node (.node (.node .leaf (some (joinO)) .leaf) none .leaf) none .leaf))) none (.node .leaf none (.node (.node .leaf none (.node .leaf (some (checkO 228)) .leaf)) none .leaf))))) none (.node (.node (.node (.node .leaf none (.node (.node .leaf none (.node .leaf none (.node .leaf (some (indexO)) .leaf))) none .leaf)) none (.node (.node .leaf (some (textO (sumT sumTab) len32)) .leaf) none .leaf)) none .leaf) none (.node (.node (.node (.node (.node .leaf (some (textO (sumT sumTab) len32)) .leaf) none .leaf) none (.node (.node .leaf none (.node .leaf (some (makeOF (sumT sumTab) (fcallF C2 (fexec C2 1000000)) 7)) .leaf)) none .leaf)) none .leaf) none (.node (.node .leaf none (.node .leaf none (.node (.node .leaf (some (foundO (fcallF C2 (fexec C2 1000000)))) .leaf) none .leaf))) none .leaf))))
theorem orc4_eq : orc4T = tabOf orc4L := by kernel_rfl
theorem orc4_ok (W : World) : ∀ p ∈ orc4L, FuncOk ⟨Tryz.prog, compC Tryz.prog 7, 7, W⟩ Unit p.1 p.2 := by
 intro p hp
 rcases List.mem_cons.1 hp with rfl | hp
 · refine caught_ok (C3_ok W) fun g hg => ?_
   simp only [List.mem_cons, List.not_mem_nil, or_false] at hg
   rcases hg with rfl
   all_goals kernel_rfl
 exact orc3_ok W p hp
noncomputable def C4 : Cfg Unit := ⟨Lit.fnsT, orc4T⟩
theorem C4_ok (W : World) : CfgOk ⟨Tryz.prog, compC Tryz.prog 7, 7, W⟩ Unit C4 := cfg_ok (Lit.fns_ok W) Lit.fns_eq (orc4_ok W) orc4_eq rfl (by kernel_rfl)
theorem run10 : fcallF C4 (fexec C4 1000000) 10 [] (startA namesHeap 7) isTrueK = some () := by kernel_rfl
noncomputable def orc5L : List (Nat × (List AVal → AState → KV Unit → Option Unit)) := (10, trueO) :: orc4L
noncomputable def orc5T : T (List AVal → AState → KV Unit → Option Unit) := (.node (.node (.node (.node (.node (.node (.node .leaf none (.node .leaf (some (caughtO [192] (fcallF C3 (fexec C3 1000000)))) .leaf)) none .leaf) none .leaf) none (.node .leaf none (.node .leaf none (.node .leaf none (.node .leaf (some (cloneO)) .leaf))))) none (.node (.node (.node .leaf none (.node .leaf none (.node .leaf (some (textO hexN len2)) .leaf))) none .leaf) none (.node (.node .leaf (some (keysO keysIts 9)) .leaf) none (.node .leaf none (.node .leaf none (.node (.node .leaf (some (mulO)) .leaf) none .leaf)))))) none (.node .leaf none (.node (.node (.node (.node (.node .leaf none (.node .leaf (some (newO fieldL 509)) .leaf)) none .leaf) none .leaf) none (.node .leaf none (.node (.node (.node .leaf (some (joinO)) .leaf) none .leaf) none .leaf))) none (.node .leaf none (.node (.node .leaf none (.node .leaf (some (checkO 228)) .leaf)) none .leaf))))) none (.node (.node (.node (.node .leaf none (.node (.node .leaf none (.node .leaf none (.node .leaf (some (indexO)) .leaf))) none .leaf)) none (.node (.node .leaf (some (textO (sumT sumTab) len32)) .leaf) none .leaf)) none .leaf) none (.node (.node (.node (.node (.node .leaf (some (textO (sumT sumTab) len32)) .leaf) none .leaf) none (.node (.node .leaf none (.node .leaf (some (makeOF (sumT sumTab) (fcallF C2 (fexec C2 1000000)) 7)) .leaf)) none .leaf)) (some (trueO)) .leaf) none (.node (.node .leaf none (.node .leaf none (.node (.node .leaf (some (foundO (fcallF C2 (fexec C2 1000000)))) .leaf) none .leaf))) none .leaf))))
theorem orc5_eq : orc5T = tabOf orc5L := by kernel_rfl
theorem orc5_ok (W : World) (hh : HeapOk ⟨Tryz.prog, compC Tryz.prog 7, 7, W⟩ namesHeap (fun _ => 2)) : ∀ p ∈ orc5L, FuncOk ⟨Tryz.prog, compC Tryz.prog 7, 7, W⟩ Unit p.1 p.2 := by
 intro p hp
 rcases List.mem_cons.1 hp with rfl | hp
 · exact true_ok Tryz.func10 (by kernel_rfl) rfl C4_ok (by kernel_rfl) hh run10
 exact orc4_ok W p hp
noncomputable def C5 : Cfg Unit := ⟨Lit.fnsT, orc5T⟩
theorem C5_ok (W : World) (hh : HeapOk ⟨Tryz.prog, compC Tryz.prog 7, 7, W⟩ namesHeap (fun _ => 2)) : CfgOk ⟨Tryz.prog, compC Tryz.prog 7, 7, W⟩ Unit C5 := cfg_ok (Lit.fns_ok W) Lit.fns_eq (orc5_ok W hh) orc5_eq rfl (by kernel_rfl)
theorem run : fcallB (fexec C5 1000000) Lit.a3 [] (startA namesHeap 7) isTrueK = some () := by kernel_rfl
theorem true_any (W : World) (hG : 7 ≤ W.heap.size) (hh : HeapOk ⟨Tryz.prog, compC Tryz.prog 7, 7, W⟩ namesHeap (fun _ => 2)) : Calls Tryz.prog 3 #[] W fun e W' => e = .returned (.bool true) ∧ Below W.heap.size W W' :=
 calls_true (E := ⟨Tryz.prog, compC Tryz.prog 7, 7, W⟩) (C5_ok W hh) (Lit.k3 W) (heap := namesHeap) (N := (fun _ => 2)) hG hh ((frun_eq C5 1000000 Lit.a3 [] _ _).symm.trans run)
end Abs
end Go.Proofs.YtdbkadickikgjaaGreatDoor.Refl
