/- The tables of codes. -/
import Derived.Test.YtahoelmjfgoedaaGreatTab0
import Derived.Test.YtahoelmjfgoedaaGreatTab1
namespace Go.Proofs.YtahoelmjfgoedaaGreat.T
open Go.RowKit Go.Sim
set_option maxRecDepth 100000
def tab : List (Option (FnT × KT)) := [none, none, none, none, none, none, none, none, none, none, none, none, none, some (t13, k13), none, some (t15, k15), none, none, some (t18, k18), none, none, none, some (t22, k22), none, some (t24, k24), some (t25, k25), some (t26, k26), none, none, none, none, none, none, none, none, none, none, none, none, none, none, none, none, some (t43, k43), some (t44, k44), none, none, some (t47, k47), some (t48, k48), none, none, none, some (t52, k52), some (t53, k53), none, none, none, some (t57, k57), some (t58, k58), some (t59, k59), some (t60, k60), some (t61, k61), some (t62, k62), some (t63, k63), some (t64, k64), some (t65, k65), some (t66, k66), none, some (t68, k68), some (t69, k69), some (t70, k70), some (t71, k71), some (t72, k72), some (t73, k73), some (t74, k74), some (t75, k75), some (t76, k76), some (t77, k77), some (t78, k78), some (t79, k79), some (t80, k80), some (t81, k81), some (t82, k82), some (t83, k83), none, none, none, none, some (t88, k88), none, some (t90, k90), none, none, none, none, none, none, none, none, none, none, none, none, none, none, none, none, none, none, none, some (t110, k110), some (t111, k111), some (t112, k112), none, none, some (t115, k115), none, none, none, none, none, none, none, none, none, none, none, none, some (t128, k128), some (t129, k129), some (t130, k130), some (t131, k131), some (t132, k132), some (t133, k133), some (t134, k134), some (t135, k135), some (t136, k136), some (t137, k137), some (t138, k138), some (t139, k139), some (t140, k140), some (t141, k141), some (t142, k142), some (t143, k143), some (t144, k144), some (t145, k145), some (t146, k146), some (t147, k147), some (t148, k148), some (t149, k149), some (t150, k150), some (t151, k151), some (t152, k152), some (t153, k153), none, none, none, some (t157, k157), some (t158, k158), none, none, none, none, none, none, none, none, none, none, none, none, none, none, none, none, none, none, none, none, none, none, none, none, none, none, none, some (t186, k186), some (t187, k187), some (t188, k188), some (t189, k189), some (t190, k190), some (t191, k191), some (t192, k192), some (t193, k193), some (t194, k194), none, none, none, none, some (t199, k199), some (t200, k200), some (t201, k201), some (t202, k202), none, none, none, none, none, none, none, none, none, none, none, none, none, none, some (t217, k217), some (t218, k218), some (t219, k219), some (t220, k220), some (t221, k221), some (t222, k222), some (t223, k223), some (t224, k224), some (t225, k225), some (t226, k226), some (t227, k227), some (t228, k228), some (t229, k229), some (t230, k230), some (t231, k231), some (t232, k232), some (t233, k233), some (t234, k234), some (t235, k235), some (t236, k236), some (t237, k237), some (t238, k238), some (t239, k239), some (t240, k240), some (t241, k241), some (t242, k242), some (t243, k243), some (t244, k244), some (t245, k245), some (t246, k246), some (t247, k247), some (t248, k248), some (t249, k249), none, none, none, none, none, none, none, some (t257, k257), some (t258, k258), none, none, none, none, none, none, none, none, none, none, none, none, none, none, none, none, none, none, none, none, none, none, some (t281, k281), some (t282, k282), none, some (t284, k284), some (t285, k285), none, none, none, none, none, none, none, none, none, none, none, none, none, none, none, none, some (t302, k302), some (t303, k303), some (t304, k304), some (t305, k305), some (t306, k306), some (t307, k307), some (t308, k308), some (t309, k309), some (t310, k310), some (t311, k311), some (t312, k312), some (t313, k313), some (t314, k314), some (t315, k315), some (t316, k316), some (t317, k317), some (t318, k318), some (t319, k319), none, none, none, none, none, none, none, none, none, none, none, some (t331, k331), some (t332, k332), some (t333, k333), some (t334, k334), some (t335, k335), some (t336, k336), some (t337, k337), some (t338, k338)]
theorem tab_ok : TabOk Go.Proofs.Tryz.prog 0 tab := (.skip (.skip (.skip (.skip (.skip (.skip (.skip (.skip (.skip (.skip (.skip (.skip (.skip (.cons r13 (.skip (.cons r15 (.skip (.skip (.cons r18 (.skip (.skip (.skip (.cons r22 (.skip (.cons r24 (.cons r25 (.cons r26 (.skip (.skip (.skip (.skip (.skip (.skip (.skip (.skip (.skip (.skip (.skip (.skip (.skip (.skip (.skip (.skip (.cons r43 (.cons r44 (.skip (.skip (.cons r47 (.cons r48 (.skip (.skip (.skip (.cons r52 (.cons r53 (.skip (.skip (.skip (.cons r57 (.cons r58 (.cons r59 (.cons r60 (.cons r61 (.cons r62 (.cons r63 (.cons r64 (.cons r65 (.cons r66 (.skip (.cons r68 (.cons r69 (.cons r70 (.cons r71 (.cons r72 (.cons r73 (.cons r74 (.cons r75 (.cons r76 (.cons r77 (.cons r78 (.cons r79 (.cons r80 (.cons r81 (.cons r82 (.cons r83 (.skip (.skip (.skip (.skip (.cons r88 (.skip (.cons r90 (.skip (.skip (.skip (.skip (.skip (.skip (.skip (.skip (.skip (.skip (.skip (.skip (.skip (.skip (.skip (.skip (.skip (.skip (.skip (.cons r110 (.cons r111 (.cons r112 (.skip (.skip (.cons r115 (.skip (.skip (.skip (.skip (.skip (.skip (.skip (.skip (.skip (.skip (.skip (.skip (.cons r128 (.cons r129 (.cons r130 (.cons r131 (.cons r132 (.cons r133 (.cons r134 (.cons r135 (.cons r136 (.cons r137 (.cons r138 (.cons r139 (.cons r140 (.cons r141 (.cons r142 (.cons r143 (.cons r144 (.cons r145 (.cons r146 (.cons r147 (.cons r148 (.cons r149 (.cons r150 (.cons r151 (.cons r152 (.cons r153 (.skip (.skip (.skip (.cons r157 (.cons r158 (.skip (.skip (.skip (.skip (.skip (.skip (.skip (.skip (.skip (.skip (.skip (.skip (.skip (.skip (.skip (.skip (.skip (.skip (.skip (.skip (.skip (.skip (.skip (.skip (.skip (.skip (.skip (.cons r186 (.cons r187 (.cons r188 (.cons r189 (.cons r190 (.cons r191 (.cons r192 (.cons r193 (.cons r194 (.skip (.skip (.skip (.skip (.cons r199 (.cons r200 (.cons r201 (.cons r202 (.skip (.skip (.skip (.skip (.skip (.skip (.skip (.skip (.skip (.skip (.skip (.skip (.skip (.skip (.cons r217 (.cons r218 (.cons r219 (.cons r220 (.cons r221 (.cons r222 (.cons r223 (.cons r224 (.cons r225 (.cons r226 (.cons r227 (.cons r228 (.cons r229 (.cons r230 (.cons r231 (.cons r232 (.cons r233 (.cons r234 (.cons r235 (.cons r236 (.cons r237 (.cons r238 (.cons r239 (.cons r240 (.cons r241 (.cons r242 (.cons r243 (.cons r244 (.cons r245 (.cons r246 (.cons r247 (.cons r248 (.cons r249 (.skip (.skip (.skip (.skip (.skip (.skip (.skip (.cons r257 (.cons r258 (.skip (.skip (.skip (.skip (.skip (.skip (.skip (.skip (.skip (.skip (.skip (.skip (.skip (.skip (.skip (.skip (.skip (.skip (.skip (.skip (.skip (.skip (.cons r281 (.cons r282 (.skip (.cons r284 (.cons r285 (.skip (.skip (.skip (.skip (.skip (.skip (.skip (.skip (.skip (.skip (.skip (.skip (.skip (.skip (.skip (.skip (.cons r302 (.cons r303 (.cons r304 (.cons r305 (.cons r306 (.cons r307 (.cons r308 (.cons r309 (.cons r310 (.cons r311 (.cons r312 (.cons r313 (.cons r314 (.cons r315 (.cons r316 (.cons r317 (.cons r318 (.cons r319 (.skip (.skip (.skip (.skip (.skip (.skip (.skip (.skip (.skip (.skip (.skip (.cons r331 (.cons r332 (.cons r333 (.cons r334 (.cons r335 (.cons r336 (.cons r337 (.cons r338 .done)))))))))))))))))))))))))))))))))))))))))))))))))))))))))))))))))))))))))))))))))))))))))))))))))))))))))))))))))))))))))))))))))))))))))))))))))))))))))))))))))))))))))))))))))))))))))))))))))))))))))))))))))))))))))))))))))))))))))))))))))))))))))))))))))))))))))))))))))))))))))))))))))))))))))))))))))))))))))))))))))))))))))))))))))))
theorem T13 : tab[13]? = some (some (t13, k13)) := rfl
theorem T15 : tab[15]? = some (some (t15, k15)) := rfl
theorem T18 : tab[18]? = some (some (t18, k18)) := rfl
theorem T22 : tab[22]? = some (some (t22, k22)) := rfl
theorem T24 : tab[24]? = some (some (t24, k24)) := rfl
theorem T25 : tab[25]? = some (some (t25, k25)) := rfl
theorem T26 : tab[26]? = some (some (t26, k26)) := rfl
theorem T43 : tab[43]? = some (some (t43, k43)) := rfl
theorem T44 : tab[44]? = some (some (t44, k44)) := rfl
theorem T47 : tab[47]? = some (some (t47, k47)) := rfl
theorem T48 : tab[48]? = some (some (t48, k48)) := rfl
theorem T52 : tab[52]? = some (some (t52, k52)) := rfl
theorem T53 : tab[53]? = some (some (t53, k53)) := rfl
theorem T57 : tab[57]? = some (some (t57, k57)) := rfl
theorem T58 : tab[58]? = some (some (t58, k58)) := rfl
theorem T59 : tab[59]? = some (some (t59, k59)) := rfl
theorem T60 : tab[60]? = some (some (t60, k60)) := rfl
theorem T61 : tab[61]? = some (some (t61, k61)) := rfl
theorem T62 : tab[62]? = some (some (t62, k62)) := rfl
theorem T63 : tab[63]? = some (some (t63, k63)) := rfl
theorem T64 : tab[64]? = some (some (t64, k64)) := rfl
theorem T65 : tab[65]? = some (some (t65, k65)) := rfl
theorem T66 : tab[66]? = some (some (t66, k66)) := rfl
theorem T68 : tab[68]? = some (some (t68, k68)) := rfl
theorem T69 : tab[69]? = some (some (t69, k69)) := rfl
theorem T70 : tab[70]? = some (some (t70, k70)) := rfl
theorem T71 : tab[71]? = some (some (t71, k71)) := rfl
theorem T72 : tab[72]? = some (some (t72, k72)) := rfl
theorem T73 : tab[73]? = some (some (t73, k73)) := rfl
theorem T74 : tab[74]? = some (some (t74, k74)) := rfl
theorem T75 : tab[75]? = some (some (t75, k75)) := rfl
theorem T76 : tab[76]? = some (some (t76, k76)) := rfl
theorem T77 : tab[77]? = some (some (t77, k77)) := rfl
theorem T78 : tab[78]? = some (some (t78, k78)) := rfl
theorem T79 : tab[79]? = some (some (t79, k79)) := rfl
theorem T80 : tab[80]? = some (some (t80, k80)) := rfl
theorem T81 : tab[81]? = some (some (t81, k81)) := rfl
theorem T82 : tab[82]? = some (some (t82, k82)) := rfl
theorem T83 : tab[83]? = some (some (t83, k83)) := rfl
theorem T88 : tab[88]? = some (some (t88, k88)) := rfl
theorem T90 : tab[90]? = some (some (t90, k90)) := rfl
theorem T110 : tab[110]? = some (some (t110, k110)) := rfl
theorem T111 : tab[111]? = some (some (t111, k111)) := rfl
theorem T112 : tab[112]? = some (some (t112, k112)) := rfl
theorem T115 : tab[115]? = some (some (t115, k115)) := rfl
theorem T128 : tab[128]? = some (some (t128, k128)) := rfl
theorem T129 : tab[129]? = some (some (t129, k129)) := rfl
theorem T130 : tab[130]? = some (some (t130, k130)) := rfl
theorem T131 : tab[131]? = some (some (t131, k131)) := rfl
theorem T132 : tab[132]? = some (some (t132, k132)) := rfl
theorem T133 : tab[133]? = some (some (t133, k133)) := rfl
theorem T134 : tab[134]? = some (some (t134, k134)) := rfl
theorem T135 : tab[135]? = some (some (t135, k135)) := rfl
theorem T136 : tab[136]? = some (some (t136, k136)) := rfl
theorem T137 : tab[137]? = some (some (t137, k137)) := rfl
theorem T138 : tab[138]? = some (some (t138, k138)) := rfl
theorem T139 : tab[139]? = some (some (t139, k139)) := rfl
theorem T140 : tab[140]? = some (some (t140, k140)) := rfl
theorem T141 : tab[141]? = some (some (t141, k141)) := rfl
theorem T142 : tab[142]? = some (some (t142, k142)) := rfl
theorem T143 : tab[143]? = some (some (t143, k143)) := rfl
theorem T144 : tab[144]? = some (some (t144, k144)) := rfl
theorem T145 : tab[145]? = some (some (t145, k145)) := rfl
theorem T146 : tab[146]? = some (some (t146, k146)) := rfl
theorem T147 : tab[147]? = some (some (t147, k147)) := rfl
theorem T148 : tab[148]? = some (some (t148, k148)) := rfl
theorem T149 : tab[149]? = some (some (t149, k149)) := rfl
theorem T150 : tab[150]? = some (some (t150, k150)) := rfl
theorem T151 : tab[151]? = some (some (t151, k151)) := rfl
theorem T152 : tab[152]? = some (some (t152, k152)) := rfl
theorem T153 : tab[153]? = some (some (t153, k153)) := rfl
theorem T157 : tab[157]? = some (some (t157, k157)) := rfl
theorem T158 : tab[158]? = some (some (t158, k158)) := rfl
theorem T186 : tab[186]? = some (some (t186, k186)) := rfl
theorem T187 : tab[187]? = some (some (t187, k187)) := rfl
theorem T188 : tab[188]? = some (some (t188, k188)) := rfl
theorem T189 : tab[189]? = some (some (t189, k189)) := rfl
theorem T190 : tab[190]? = some (some (t190, k190)) := rfl
theorem T191 : tab[191]? = some (some (t191, k191)) := rfl
theorem T192 : tab[192]? = some (some (t192, k192)) := rfl
theorem T193 : tab[193]? = some (some (t193, k193)) := rfl
theorem T194 : tab[194]? = some (some (t194, k194)) := rfl
theorem T199 : tab[199]? = some (some (t199, k199)) := rfl
theorem T200 : tab[200]? = some (some (t200, k200)) := rfl
theorem T201 : tab[201]? = some (some (t201, k201)) := rfl
theorem T202 : tab[202]? = some (some (t202, k202)) := rfl
theorem T217 : tab[217]? = some (some (t217, k217)) := rfl
theorem T218 : tab[218]? = some (some (t218, k218)) := rfl
theorem T219 : tab[219]? = some (some (t219, k219)) := rfl
theorem T220 : tab[220]? = some (some (t220, k220)) := rfl
theorem T221 : tab[221]? = some (some (t221, k221)) := rfl
theorem T222 : tab[222]? = some (some (t222, k222)) := rfl
theorem T223 : tab[223]? = some (some (t223, k223)) := rfl
theorem T224 : tab[224]? = some (some (t224, k224)) := rfl
theorem T225 : tab[225]? = some (some (t225, k225)) := rfl
theorem T226 : tab[226]? = some (some (t226, k226)) := rfl
theorem T227 : tab[227]? = some (some (t227, k227)) := rfl
theorem T228 : tab[228]? = some (some (t228, k228)) := rfl
theorem T229 : tab[229]? = some (some (t229, k229)) := rfl
theorem T230 : tab[230]? = some (some (t230, k230)) := rfl
theorem T231 : tab[231]? = some (some (t231, k231)) := rfl
theorem T232 : tab[232]? = some (some (t232, k232)) := rfl
theorem T233 : tab[233]? = some (some (t233, k233)) := rfl
theorem T234 : tab[234]? = some (some (t234, k234)) := rfl
theorem T235 : tab[235]? = some (some (t235, k235)) := rfl
theorem T236 : tab[236]? = some (some (t236, k236)) := rfl
theorem T237 : tab[237]? = some (some (t237, k237)) := rfl
theorem T238 : tab[238]? = some (some (t238, k238)) := rfl
theorem T239 : tab[239]? = some (some (t239, k239)) := rfl
theorem T240 : tab[240]? = some (some (t240, k240)) := rfl
theorem T241 : tab[241]? = some (some (t241, k241)) := rfl
theorem T242 : tab[242]? = some (some (t242, k242)) := rfl
theorem T243 : tab[243]? = some (some (t243, k243)) := rfl
theorem T244 : tab[244]? = some (some (t244, k244)) := rfl
theorem T245 : tab[245]? = some (some (t245, k245)) := rfl
theorem T246 : tab[246]? = some (some (t246, k246)) := rfl
theorem T247 : tab[247]? = some (some (t247, k247)) := rfl
theorem T248 : tab[248]? = some (some (t248, k248)) := rfl
theorem T249 : tab[249]? = some (some (t249, k249)) := rfl
theorem T257 : tab[257]? = some (some (t257, k257)) := rfl
theorem T258 : tab[258]? = some (some (t258, k258)) := rfl
theorem T281 : tab[281]? = some (some (t281, k281)) := rfl
theorem T282 : tab[282]? = some (some (t282, k282)) := rfl
theorem T284 : tab[284]? = some (some (t284, k284)) := rfl
theorem T285 : tab[285]? = some (some (t285, k285)) := rfl
theorem T302 : tab[302]? = some (some (t302, k302)) := rfl
theorem T303 : tab[303]? = some (some (t303, k303)) := rfl
theorem T304 : tab[304]? = some (some (t304, k304)) := rfl
theorem T305 : tab[305]? = some (some (t305, k305)) := rfl
theorem T306 : tab[306]? = some (some (t306, k306)) := rfl
theorem T307 : tab[307]? = some (some (t307, k307)) := rfl
theorem T308 : tab[308]? = some (some (t308, k308)) := rfl
theorem T309 : tab[309]? = some (some (t309, k309)) := rfl
theorem T310 : tab[310]? = some (some (t310, k310)) := rfl
theorem T311 : tab[311]? = some (some (t311, k311)) := rfl
theorem T312 : tab[312]? = some (some (t312, k312)) := rfl
theorem T313 : tab[313]? = some (some (t313, k313)) := rfl
theorem T314 : tab[314]? = some (some (t314, k314)) := rfl
theorem T315 : tab[315]? = some (some (t315, k315)) := rfl
theorem T316 : tab[316]? = some (some (t316, k316)) := rfl
theorem T317 : tab[317]? = some (some (t317, k317)) := rfl
theorem T318 : tab[318]? = some (some (t318, k318)) := rfl
theorem T319 : tab[319]? = some (some (t319, k319)) := rfl
theorem T331 : tab[331]? = some (some (t331, k331)) := rfl
theorem T332 : tab[332]? = some (some (t332, k332)) := rfl
theorem T333 : tab[333]? = some (some (t333, k333)) := rfl
theorem T334 : tab[334]? = some (some (t334, k334)) := rfl
theorem T335 : tab[335]? = some (some (t335, k335)) := rfl
theorem T336 : tab[336]? = some (some (t336, k336)) := rfl
theorem T337 : tab[337]? = some (some (t337, k337)) := rfl
theorem T338 : tab[338]? = some (some (t338, k338)) := rfl
def lps : Nat → Nat → Option LpT
  | 303, 0 => some l303_0
  | _, _ => none
theorem lps_ok : ∀ f j q, lps f j = some q → trLp Go.Proofs.Tryz.prog f j = some (q.N, q.ps, q.as, q.bd) := by
  intro f j q h
  unfold lps at h
  split at h
  · cases h; exact rl303_0
  · cases h
end Go.Proofs.YtahoelmjfgoedaaGreat.T
