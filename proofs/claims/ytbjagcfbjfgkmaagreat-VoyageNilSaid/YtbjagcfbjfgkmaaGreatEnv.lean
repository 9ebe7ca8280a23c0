/- The tables of the program, as the evaluator reads them; that they are the program's. Printed by a program (env.py). -/
import Derived.Test.YtbjagcfbjfgkmaaGreatProg
import Derived.Test.YtbjagcfbjfgkmaaGreatAv4
namespace Go.Proofs.YtbjagcfbjfgkmaaGreat
open Go.Av
noncomputable def fnT : T Func := (.node (.node (.node (.node (.node (.node (.node (.node (.node .leaf (some Tryz.f255) .leaf) (some Tryz.f127) .leaf) (some Tryz.f63) (.node (.node .leaf (some Tryz.f319) .leaf) (some Tryz.f191) .leaf)) (some Tryz.f31) (.node (.node (.node .leaf (some Tryz.f287) .leaf) (some Tryz.f159) .leaf) (some Tryz.f95) (.node .leaf (some Tryz.f223) .leaf))) (some Tryz.f15) (.node (.node (.node (.node .leaf (some Tryz.f271) .leaf) (some Tryz.f143) .leaf) (some Tryz.f79) (.node (.node .leaf (some Tryz.f335) .leaf) (some Tryz.f207) .leaf)) (some Tryz.f47) (.node (.node (.node .leaf (some Tryz.f303) .leaf) (some Tryz.f175) .leaf) (some Tryz.f111) (.node .leaf (some Tryz.f239) .leaf)))) (some Tryz.f7) (.node (.node (.node (.node (.node .leaf (some Tryz.f263) .leaf) (some Tryz.f135) .leaf) (some Tryz.f71) (.node (.node .leaf (some Tryz.f327) .leaf) (some Tryz.f199) .leaf)) (some Tryz.f39) (.node (.node (.node .leaf (some Tryz.f295) .leaf) (some Tryz.f167) .leaf) (some Tryz.f103) (.node .leaf (some Tryz.f231) .leaf))) (some Tryz.f23) (.node (.node (.node (.node .leaf (some Tryz.f279) .leaf) (some Tryz.f151) .leaf) (some Tryz.f87) (.node .leaf (some Tryz.f215) .leaf)) (some Tryz.f55) (.node (.node (.node .leaf (some Tryz.f311) .leaf) (some Tryz.f183) .leaf) (some Tryz.f119) (.node .leaf (some Tryz.f247) .leaf))))) (some Tryz.f3) (.node (.node (.node (.node (.node (.node .leaf (some Tryz.f259) .leaf) (some Tryz.f131) .leaf) (some Tryz.f67) (.node (.node .leaf (some Tryz.f323) .leaf) (some Tryz.f195) .leaf)) (some Tryz.f35) (.node (.node (.node .leaf (some Tryz.f291) .leaf) (some Tryz.f163) .leaf) (some Tryz.f99) (.node .leaf (some Tryz.f227) .leaf))) (some Tryz.f19) (.node (.node (.node (.node .leaf (some Tryz.f275) .leaf) (some Tryz.f147) .leaf) (some Tryz.f83) (.node (.node .leaf (some Tryz.f339) .leaf) (some Tryz.f211) .leaf)) (some Tryz.f51) (.node (.node (.node .leaf (some Tryz.f307) .leaf) (some Tryz.f179) .leaf) (some Tryz.f115) (.node .leaf (some Tryz.f243) .leaf)))) (some Tryz.f11) (.node (.node (.node (.node (.node .leaf (some Tryz.f267) .leaf) (some Tryz.f139) .leaf) (some Tryz.f75) (.node (.node .leaf (some Tryz.f331) .leaf) (some Tryz.f203) .leaf)) (some Tryz.f43) (.node (.node (.node .leaf (some Tryz.f299) .leaf) (some Tryz.f171) .leaf) (some Tryz.f107) (.node .leaf (some Tryz.f235) .leaf))) (some Tryz.f27) (.node (.node (.node (.node .leaf (some Tryz.f283) .leaf) (some Tryz.f155) .leaf) (some Tryz.f91) (.node .leaf (some Tryz.f219) .leaf)) (some Tryz.f59) (.node (.node (.node .leaf (some Tryz.f315) .leaf) (some Tryz.f187) .leaf) (some Tryz.f123) (.node .leaf (some Tryz.f251) .leaf)))))) (some Tryz.f1) (.node (.node (.node (.node (.node (.node (.node .leaf (some Tryz.f257) .leaf) (some Tryz.f129) .leaf) (some Tryz.f65) (.node (.node .leaf (some Tryz.f321) .leaf) (some Tryz.f193) .leaf)) (some Tryz.f33) (.node (.node (.node .leaf (some Tryz.f289) .leaf) (some Tryz.f161) .leaf) (some Tryz.f97) (.node .leaf (some Tryz.f225) .leaf))) (some Tryz.f17) (.node (.node (.node (.node .leaf (some Tryz.f273) .leaf) (some Tryz.f145) .leaf) (some Tryz.f81) (.node (.node .leaf (some Tryz.f337) .leaf) (some Tryz.f209) .leaf)) (some Tryz.f49) (.node (.node (.node .leaf (some Tryz.f305) .leaf) (some Tryz.f177) .leaf) (some Tryz.f113) (.node .leaf (some Tryz.f241) .leaf)))) (some Tryz.f9) (.node (.node (.node (.node (.node .leaf (some Tryz.f265) .leaf) (some Tryz.f137) .leaf) (some Tryz.f73) (.node (.node .leaf (some Tryz.f329) .leaf) (some Tryz.f201) .leaf)) (some Tryz.f41) (.node (.node (.node .leaf (some Tryz.f297) .leaf) (some Tryz.f169) .leaf) (some Tryz.f105) (.node .leaf (some Tryz.f233) .leaf))) (some Tryz.f25) (.node (.node (.node (.node .leaf (some Tryz.f281) .leaf) (some Tryz.f153) .leaf) (some Tryz.f89) (.node .leaf (some Tryz.f217) .leaf)) (some Tryz.f57) (.node (.node (.node .leaf (some Tryz.f313) .leaf) (some Tryz.f185) .leaf) (some Tryz.f121) (.node .leaf (some Tryz.f249) .leaf))))) (some Tryz.f5) (.node (.node (.node (.node (.node (.node .leaf (some Tryz.f261) .leaf) (some Tryz.f133) .leaf) (some Tryz.f69) (.node (.node .leaf (some Tryz.f325) .leaf) (some Tryz.f197) .leaf)) (some Tryz.f37) (.node (.node (.node .leaf (some Tryz.f293) .leaf) (some Tryz.f165) .leaf) (some Tryz.f101) (.node .leaf (some Tryz.f229) .leaf))) (some Tryz.f21) (.node (.node (.node (.node .leaf (some Tryz.f277) .leaf) (some Tryz.f149) .leaf) (some Tryz.f85) (.node (.node .leaf (some Tryz.f341) .leaf) (some Tryz.f213) .leaf)) (some Tryz.f53) (.node (.node (.node .leaf (some Tryz.f309) .leaf) (some Tryz.f181) .leaf) (some Tryz.f117) (.node .leaf (some Tryz.f245) .leaf)))) (some Tryz.f13) (.node (.node (.node (.node (.node .leaf (some Tryz.f269) .leaf) (some Tryz.f141) .leaf) (some Tryz.f77) (.node (.node .leaf (some Tryz.f333) .leaf) (some Tryz.f205) .leaf)) (some Tryz.f45) (.node (.node (.node .leaf (some Tryz.f301) .leaf) (some Tryz.f173) .leaf) (some Tryz.f109) (.node .leaf (some Tryz.f237) .leaf))) (some Tryz.f29) (.node (.node (.node (.node .leaf (some Tryz.f285) .leaf) (some Tryz.f157) .leaf) (some Tryz.f93) (.node .leaf (some Tryz.f221) .leaf)) (some Tryz.f61) (.node (.node (.node .leaf (some Tryz.f317) .leaf) (some Tryz.f189) .leaf) (some Tryz.f125) (.node .leaf (some Tryz.f253) .leaf))))))) (some Tryz.f0) (.node (.node (.node (.node (.node (.node (.node (.node .leaf (some Tryz.f256) .leaf) (some Tryz.f128) .leaf) (some Tryz.f64) (.node (.node .leaf (some Tryz.f320) .leaf) (some Tryz.f192) .leaf)) (some Tryz.f32) (.node (.node (.node .leaf (some Tryz.f288) .leaf) (some Tryz.f160) .leaf) (some Tryz.f96) (.node .leaf (some Tryz.f224) .leaf))) (some Tryz.f16) (.node (.node (.node (.node .leaf (some Tryz.f272) .leaf) (some Tryz.f144) .leaf) (some Tryz.f80) (.node (.node .leaf (some Tryz.f336) .leaf) (some Tryz.f208) .leaf)) (some Tryz.f48) (.node (.node (.node .leaf (some Tryz.f304) .leaf) (some Tryz.f176) .leaf) (some Tryz.f112) (.node .leaf (some Tryz.f240) .leaf)))) (some Tryz.f8) (.node (.node (.node (.node (.node .leaf (some Tryz.f264) .leaf) (some Tryz.f136) .leaf) (some Tryz.f72) (.node (.node .leaf (some Tryz.f328) .leaf) (some Tryz.f200) .leaf)) (some Tryz.f40) (.node (.node (.node .leaf (some Tryz.f296) .leaf) (some Tryz.f168) .leaf) (some Tryz.f104) (.node .leaf (some Tryz.f232) .leaf))) (some Tryz.f24) (.node (.node (.node (.node .leaf (some Tryz.f280) .leaf) (some Tryz.f152) .leaf) (some Tryz.f88) (.node .leaf (some Tryz.f216) .leaf)) (some Tryz.f56) (.node (.node (.node .leaf (some Tryz.f312) .leaf) (some Tryz.f184) .leaf) (some Tryz.f120) (.node .leaf (some Tryz.f248) .leaf))))) (some Tryz.f4) (.node (.node (.node (.node (.node (.node .leaf (some Tryz.f260) .leaf) (some Tryz.f132) .leaf) (some Tryz.f68) (.node (.node .leaf (some Tryz.f324) .leaf) (some Tryz.f196) .leaf)) (some Tryz.f36) (.node (.node (.node .leaf (some Tryz.f292) .leaf) (some Tryz.f164) .leaf) (some Tryz.f100) (.node .leaf (some Tryz.f228) .leaf))) (some Tryz.f20) (.node (.node (.node (.node .leaf (some Tryz.f276) .leaf) (some Tryz.f148) .leaf) (some Tryz.f84) (.node (.node .leaf (some Tryz.f340) .leaf) (some Tryz.f212) .leaf)) (some Tryz.f52) (.node (.node (.node .leaf (some Tryz.f308) .leaf) (some Tryz.f180) .leaf) (some Tryz.f116) (.node .leaf (some Tryz.f244) .leaf)))) (some Tryz.f12) (.node (.node (.node (.node (.node .leaf (some Tryz.f268) .leaf) (some Tryz.f140) .leaf) (some Tryz.f76) (.node (.node .leaf (some Tryz.f332) .leaf) (some Tryz.f204) .leaf)) (some Tryz.f44) (.node (.node (.node .leaf (some Tryz.f300) .leaf) (some Tryz.f172) .leaf) (some Tryz.f108) (.node .leaf (some Tryz.f236) .leaf))) (some Tryz.f28) (.node (.node (.node (.node .leaf (some Tryz.f284) .leaf) (some Tryz.f156) .leaf) (some Tryz.f92) (.node .leaf (some Tryz.f220) .leaf)) (some Tryz.f60) (.node (.node (.node .leaf (some Tryz.f316) .leaf) (some Tryz.f188) .leaf) (some Tryz.f124) (.node .leaf (some Tryz.f252) .leaf)))))) (some Tryz.f2) (.node (.node (.node (.node (.node (.node (.node .leaf (some Tryz.f258) .leaf) (some Tryz.f130) .leaf) (some Tryz.f66) (.node (.node .leaf (some Tryz.f322) .leaf) (some Tryz.f194) .leaf)) (some Tryz.f34) (.node (.node (.node .leaf (some Tryz.f290) .leaf) (some Tryz.f162) .leaf) (some Tryz.f98) (.node .leaf (some Tryz.f226) .leaf))) (some Tryz.f18) (.node (.node (.node (.node .leaf (some Tryz.f274) .leaf) (some Tryz.f146) .leaf) (some Tryz.f82) (.node (.node .leaf (some Tryz.f338) .leaf) (some Tryz.f210) .leaf)) (some Tryz.f50) (.node (.node (.node .leaf (some Tryz.f306) .leaf) (some Tryz.f178) .leaf) (some Tryz.f114) (.node .leaf (some Tryz.f242) .leaf)))) (some Tryz.f10) (.node (.node (.node (.node (.node .leaf (some Tryz.f266) .leaf) (some Tryz.f138) .leaf) (some Tryz.f74) (.node (.node .leaf (some Tryz.f330) .leaf) (some Tryz.f202) .leaf)) (some Tryz.f42) (.node (.node (.node .leaf (some Tryz.f298) .leaf) (some Tryz.f170) .leaf) (some Tryz.f106) (.node .leaf (some Tryz.f234) .leaf))) (some Tryz.f26) (.node (.node (.node (.node .leaf (some Tryz.f282) .leaf) (some Tryz.f154) .leaf) (some Tryz.f90) (.node .leaf (some Tryz.f218) .leaf)) (some Tryz.f58) (.node (.node (.node .leaf (some Tryz.f314) .leaf) (some Tryz.f186) .leaf) (some Tryz.f122) (.node .leaf (some Tryz.f250) .leaf))))) (some Tryz.f6) (.node (.node (.node (.node (.node (.node .leaf (some Tryz.f262) .leaf) (some Tryz.f134) .leaf) (some Tryz.f70) (.node (.node .leaf (some Tryz.f326) .leaf) (some Tryz.f198) .leaf)) (some Tryz.f38) (.node (.node (.node .leaf (some Tryz.f294) .leaf) (some Tryz.f166) .leaf) (some Tryz.f102) (.node .leaf (some Tryz.f230) .leaf))) (some Tryz.f22) (.node (.node (.node (.node .leaf (some Tryz.f278) .leaf) (some Tryz.f150) .leaf) (some Tryz.f86) (.node (.node .leaf (some Tryz.f342) .leaf) (some Tryz.f214) .leaf)) (some Tryz.f54) (.node (.node (.node .leaf (some Tryz.f310) .leaf) (some Tryz.f182) .leaf) (some Tryz.f118) (.node .leaf (some Tryz.f246) .leaf)))) (some Tryz.f14) (.node (.node (.node (.node (.node .leaf (some Tryz.f270) .leaf) (some Tryz.f142) .leaf) (some Tryz.f78) (.node (.node .leaf (some Tryz.f334) .leaf) (some Tryz.f206) .leaf)) (some Tryz.f46) (.node (.node (.node .leaf (some Tryz.f302) .leaf) (some Tryz.f174) .leaf) (some Tryz.f110) (.node .leaf (some Tryz.f238) .leaf))) (some Tryz.f30) (.node (.node (.node (.node .leaf (some Tryz.f286) .leaf) (some Tryz.f158) .leaf) (some Tryz.f94) (.node .leaf (some Tryz.f222) .leaf)) (some Tryz.f62) (.node (.node (.node .leaf (some Tryz.f318) .leaf) (some Tryz.f190) .leaf) (some Tryz.f126) (.node .leaf (some Tryz.f254) .leaf))))))))
noncomputable def tyT : T ATy := (.node (.node (.node (.node (.node (.node .leaf none (.node .leaf (some (tyFrom Tryz.t95 Tryz.t94.desc false)) .leaf)) none (.node (.node .leaf none (.node .leaf (some (tyFrom Tryz.t207 Tryz.t207.desc true)) .leaf)) (some (tyFrom Tryz.t47 Tryz.t46.desc false)) (.node (.node (.node .leaf (some (tyFrom Tryz.t303 Tryz.t302.desc false)) .leaf) none .leaf) none (.node .leaf (some (tyFrom Tryz.t239 Tryz.t238.desc false)) .leaf)))) none (.node (.node (.node .leaf (some (tyFrom Tryz.t71 Tryz.t71.desc true)) (.node .leaf (some (tyFrom Tryz.t199 Tryz.t198.desc false)) .leaf)) none .leaf) (some (tyFrom Tryz.t23 Tryz.t23.desc true)) (.node (.node .leaf none (.node .leaf (some (tyFrom Tryz.t215 Tryz.t215.desc true)) .leaf)) none .leaf))) (some (tyFrom Tryz.t3 Tryz.t3.desc true)) (.node (.node (.node (.node (.node .leaf none (.node .leaf (some (tyFrom Tryz.t387 Tryz.t386.desc false)) .leaf)) none .leaf) (some (tyFrom Tryz.t35 Tryz.t35.desc true)) (.node (.node (.node .leaf (some (tyFrom Tryz.t291 Tryz.t291.desc true)) .leaf) none .leaf) none (.node (.node .leaf (some (tyFrom Tryz.t355 Tryz.t355.desc true)) .leaf) none .leaf))) none (.node (.node (.node .leaf (some (tyFrom Tryz.t147 Tryz.t147.desc true)) .leaf) (some (tyFrom Tryz.t83 Tryz.t82.desc false)) (.node (.node .leaf (some (tyFrom Tryz.t339 Tryz.t339.desc true)) .leaf) none .leaf)) none .leaf)) none (.node (.node (.node (.node (.node .leaf (some (tyFrom Tryz.t267 Tryz.t267.desc true)) .leaf) none .leaf) (some (tyFrom Tryz.t75 Tryz.t74.desc false)) (.node .leaf (some (tyFrom Tryz.t203 Tryz.t203.desc true)) .leaf)) (some (tyFrom Tryz.t43 Tryz.t3.desc true)) (.node (.node .leaf (some (tyFrom Tryz.t171 Tryz.t171.desc true)) .leaf) none (.node .leaf (some (tyFrom Tryz.t235 Tryz.t234.desc false)) .leaf))) (some (tyFrom Tryz.t27 Tryz.t27.desc true)) (.node (.node .leaf (some (tyFrom Tryz.t91 Tryz.t90.desc false)) .leaf) (some (tyFrom Tryz.t59 Tryz.t58.desc false)) (.node .leaf (some (tyFrom Tryz.t123 Tryz.t122.desc false)) .leaf))))) none (.node (.node (.node (.node .leaf (some (tyFrom Tryz.t33 Tryz.t33.desc true)) .leaf) none (.node (.node (.node (.node .leaf (some (tyFrom Tryz.t273 Tryz.t272.desc false)) .leaf) none .leaf) (some (tyFrom Tryz.t81 Tryz.t3.desc true)) (.node .leaf (some (tyFrom Tryz.t209 Tryz.t208.desc false)) .leaf)) (some (tyFrom Tryz.t49 Tryz.t49.desc true)) (.node .leaf (some (tyFrom Tryz.t113 Tryz.t113.desc true)) .leaf))) (some (tyFrom Tryz.t9 Tryz.t9.desc true)) (.node (.node (.node .leaf (some (tyFrom Tryz.t73 Tryz.t73.desc true)) .leaf) none (.node (.node .leaf none (.node .leaf (some (tyFrom Tryz.t425 Tryz.t424.desc true)) .leaf)) none (.node .leaf (some (tyFrom Tryz.t233 Tryz.t233.desc true)) .leaf))) (some (tyFrom Tryz.t25 Tryz.t24.desc false)) (.node (.node .leaf (some (tyFrom Tryz.t89 Tryz.t89.desc true)) .leaf) (some (tyFrom Tryz.t57 Tryz.t56.desc false)) (.node .leaf (some (tyFrom Tryz.t121 Tryz.t3.desc true)) .leaf)))) (some (tyFrom Tryz.t5 Tryz.t5.desc true)) (.node (.node (.node (.node .leaf none (.node .leaf (some (tyFrom Tryz.t197 Tryz.t197.desc true)) .leaf)) (some (tyFrom Tryz.t37 Tryz.t36.desc false)) (.node (.node (.node .leaf (some (tyFrom Tryz.t293 Tryz.t292.desc false)) .leaf) none .leaf) none .leaf)) (some (tyFrom Tryz.t21 Tryz.t21.desc true)) .leaf) none (.node (.node (.node (.node .leaf none (.node .leaf (some (tyFrom Tryz.t397 Tryz.t396.desc false)) .leaf)) none .leaf) (some (tyFrom Tryz.t45 Tryz.t45.desc true)) (.node (.node .leaf (some (tyFrom Tryz.t173 Tryz.t172.desc false)) .leaf) (some (tyFrom Tryz.t109 Tryz.t109.desc true)) (.node .leaf (some (tyFrom Tryz.t237 Tryz.t237.desc true)) .leaf))) (some (tyFrom Tryz.t29 Tryz.t29.desc true)) (.node (.node (.node (.node .leaf (some (tyFrom Tryz.t285 Tryz.t285.desc true)) .leaf) (some (tyFrom Tryz.t157 Tryz.t156.desc false)) .leaf) (some (tyFrom Tryz.t93 Tryz.t93.desc true)) (.node (.node .leaf (some (tyFrom Tryz.t349 Tryz.t349.desc true)) .leaf) none .leaf)) none .leaf))))) none (.node (.node (.node (.node (.node (.node (.node (.node .leaf (some (tyFrom Tryz.t256 Tryz.t256.desc true)) .leaf) none .leaf) none (.node (.node .leaf (some (tyFrom Tryz.t320 Tryz.t9.desc true)) .leaf) none .leaf)) (some (tyFrom Tryz.t32 Tryz.t31.desc false)) (.node (.node (.node .leaf (some (tyFrom Tryz.t288 Tryz.t288.desc true)) .leaf) none .leaf) none .leaf)) none (.node .leaf none (.node (.node .leaf (some (tyFrom Tryz.t176 Tryz.t175.desc false)) .leaf) (some (tyFrom Tryz.t112 Tryz.t112.desc true)) .leaf))) none (.node (.node (.node .leaf (some (tyFrom Tryz.t72 Tryz.t72.desc true)) (.node (.node .leaf (some (tyFrom Tryz.t328 Tryz.t328.desc true)) .leaf) none .leaf)) none (.node (.node .leaf (some (tyFrom Tryz.t168 Tryz.t167.desc false)) .leaf) (some (tyFrom Tryz.t104 Tryz.t104.desc true)) (.node .leaf (some (tyFrom Tryz.t232 Tryz.t231.desc false)) .leaf))) none (.node (.node .leaf (some (tyFrom Tryz.t88 Tryz.t87.desc false)) .leaf) none .leaf))) (some (tyFrom Tryz.t4 Tryz.t4.desc true)) (.node (.node (.node (.node (.node (.node .leaf (some (tyFrom Tryz.t260 Tryz.t259.desc false)) .leaf) (some (tyFrom Tryz.t132 Tryz.t132.desc true)) .leaf) none (.node .leaf (some (tyFrom Tryz.t196 Tryz.t195.desc false)) .leaf)) none .leaf) (some (tyFrom Tryz.t20 Tryz.t20.desc true)) (.node .leaf (some (tyFrom Tryz.t52 Tryz.t52.desc true)) (.node (.node .leaf (some (tyFrom Tryz.t180 Tryz.t180.desc true)) .leaf) none .leaf))) none (.node (.node (.node .leaf none (.node (.node .leaf (some (tyFrom Tryz.t332 Tryz.t249.desc false)) .leaf) (some (tyFrom Tryz.t204 Tryz.t204.desc true)) .leaf)) none (.node (.node .leaf none (.node .leaf (some (tyFrom Tryz.t428 Tryz.t427.desc false)) .leaf)) none (.node .leaf (some (tyFrom Tryz.t236 Tryz.t236.desc true)) .leaf))) none (.node .leaf none (.node (.node .leaf (some (tyFrom Tryz.t188 Tryz.t3.desc true)) .leaf) none .leaf))))) none (.node (.node (.node (.node (.node .leaf none (.node (.node .leaf (some (tyFrom Tryz.t322 Tryz.t9.desc true)) .leaf) (some (tyFrom Tryz.t194 Tryz.t194.desc true)) .leaf)) (some (tyFrom Tryz.t34 Tryz.t34.desc true)) (.node (.node (.node .leaf (some (tyFrom Tryz.t290 Tryz.t3.desc true)) .leaf) none .leaf) none (.node .leaf (some (tyFrom Tryz.t226 Tryz.t225.desc false)) .leaf))) none (.node (.node (.node .leaf (some (tyFrom Tryz.t146 Tryz.t146.desc true)) .leaf) none .leaf) none .leaf)) none (.node (.node (.node (.node (.node .leaf (some (tyFrom Tryz.t266 Tryz.t266.desc true)) .leaf) none .leaf) none (.node (.node .leaf (some (tyFrom Tryz.t330 Tryz.t330.desc true)) .leaf) (some (tyFrom Tryz.t202 Tryz.t201.desc false)) .leaf)) none (.node (.node .leaf none (.node .leaf (some (tyFrom Tryz.t426 Tryz.t426.desc true)) .leaf)) (some (tyFrom Tryz.t106 Tryz.t105.desc false)) .leaf)) none (.node (.node (.node (.node .leaf (some (tyFrom Tryz.t282 Tryz.t281.desc false)) .leaf) none .leaf) none (.node (.node .leaf (some (tyFrom Tryz.t346 Tryz.t345.desc false)) .leaf) none .leaf)) none (.node .leaf none (.node .leaf (some (tyFrom Tryz.t250 Tryz.t249.desc false)) .leaf))))) none (.node (.node (.node .leaf (some (tyFrom Tryz.t38 Tryz.t3.desc true)) .leaf) (some (tyFrom Tryz.t22 Tryz.t3.desc true)) (.node (.node (.node (.node .leaf (some (tyFrom Tryz.t278 Tryz.t277.desc false)) .leaf) (some (tyFrom Tryz.t150 Tryz.t149.desc false)) .leaf) none (.node (.node .leaf (some (tyFrom Tryz.t342 Tryz.t341.desc false)) .leaf) none .leaf)) none (.node .leaf (some (tyFrom Tryz.t118 Tryz.t117.desc false)) (.node .leaf (some (tyFrom Tryz.t246 Tryz.t9.desc true)) .leaf)))) none (.node (.node (.node .leaf (some (tyFrom Tryz.t78 Tryz.t77.desc false)) (.node .leaf (some (tyFrom Tryz.t206 Tryz.t205.desc false)) .leaf)) none (.node (.node .leaf (some (tyFrom Tryz.t174 Tryz.t174.desc true)) .leaf) none .leaf)) (some (tyFrom Tryz.t30 Tryz.t30.desc true)) (.node .leaf none (.node (.node .leaf (some (tyFrom Tryz.t190 Tryz.t189.desc false)) .leaf) none .leaf)))))))
theorem ty3 : TyOk Tryz.prog 3 (tyFrom Tryz.t3 Tryz.t3.desc true) := tyFrom_ok Tryz.type3 (by kernel_rfl)
theorem ty4 : TyOk Tryz.prog 4 (tyFrom Tryz.t4 Tryz.t4.desc true) := tyFrom_ok Tryz.type4 (by kernel_rfl)
theorem ty5 : TyOk Tryz.prog 5 (tyFrom Tryz.t5 Tryz.t5.desc true) := tyFrom_ok Tryz.type5 (by kernel_rfl)
theorem ty9 : TyOk Tryz.prog 9 (tyFrom Tryz.t9 Tryz.t9.desc true) := tyFrom_ok Tryz.type9 (by kernel_rfl)
theorem ty20 : TyOk Tryz.prog 20 (tyFrom Tryz.t20 Tryz.t20.desc true) := tyFrom_ok Tryz.type20 (by kernel_rfl)
theorem ty21 : TyOk Tryz.prog 21 (tyFrom Tryz.t21 Tryz.t21.desc true) := tyFrom_ok Tryz.type21 (by kernel_rfl)
theorem ty22 : TyOk Tryz.prog 22 (tyFrom Tryz.t22 Tryz.t3.desc true) := tyFrom_ok Tryz.type22 (by kernel_rfl)
theorem ty23 : TyOk Tryz.prog 23 (tyFrom Tryz.t23 Tryz.t23.desc true) := tyFrom_ok Tryz.type23 (by kernel_rfl)
theorem ty25 : TyOk Tryz.prog 25 (tyFrom Tryz.t25 Tryz.t24.desc false) := tyFrom_open Tryz.type25 (by kernel_rfl) (by kernel_rfl) (by kernel_rfl)
theorem ty27 : TyOk Tryz.prog 27 (tyFrom Tryz.t27 Tryz.t27.desc true) := tyFrom_ok Tryz.type27 (by kernel_rfl)
theorem ty29 : TyOk Tryz.prog 29 (tyFrom Tryz.t29 Tryz.t29.desc true) := tyFrom_ok Tryz.type29 (by kernel_rfl)
theorem ty30 : TyOk Tryz.prog 30 (tyFrom Tryz.t30 Tryz.t30.desc true) := tyFrom_ok Tryz.type30 (by kernel_rfl)
theorem ty32 : TyOk Tryz.prog 32 (tyFrom Tryz.t32 Tryz.t31.desc false) := tyFrom_open Tryz.type32 (by kernel_rfl) (by kernel_rfl) (by kernel_rfl)
theorem ty33 : TyOk Tryz.prog 33 (tyFrom Tryz.t33 Tryz.t33.desc true) := tyFrom_ok Tryz.type33 (by kernel_rfl)
theorem ty34 : TyOk Tryz.prog 34 (tyFrom Tryz.t34 Tryz.t34.desc true) := tyFrom_ok Tryz.type34 (by kernel_rfl)
theorem ty35 : TyOk Tryz.prog 35 (tyFrom Tryz.t35 Tryz.t35.desc true) := tyFrom_ok Tryz.type35 (by kernel_rfl)
theorem ty37 : TyOk Tryz.prog 37 (tyFrom Tryz.t37 Tryz.t36.desc false) := tyFrom_open Tryz.type37 (by kernel_rfl) (by kernel_rfl) (by kernel_rfl)
theorem ty38 : TyOk Tryz.prog 38 (tyFrom Tryz.t38 Tryz.t3.desc true) := tyFrom_ok Tryz.type38 (by kernel_rfl)
theorem ty43 : TyOk Tryz.prog 43 (tyFrom Tryz.t43 Tryz.t3.desc true) := tyFrom_ok Tryz.type43 (by kernel_rfl)
theorem ty45 : TyOk Tryz.prog 45 (tyFrom Tryz.t45 Tryz.t45.desc true) := tyFrom_ok Tryz.type45 (by kernel_rfl)
theorem ty47 : TyOk Tryz.prog 47 (tyFrom Tryz.t47 Tryz.t46.desc false) := tyFrom_open Tryz.type47 (by kernel_rfl) (by kernel_rfl) (by kernel_rfl)
theorem ty49 : TyOk Tryz.prog 49 (tyFrom Tryz.t49 Tryz.t49.desc true) := tyFrom_ok Tryz.type49 (by kernel_rfl)
theorem ty52 : TyOk Tryz.prog 52 (tyFrom Tryz.t52 Tryz.t52.desc true) := tyFrom_ok Tryz.type52 (by kernel_rfl)
theorem ty57 : TyOk Tryz.prog 57 (tyFrom Tryz.t57 Tryz.t56.desc false) := tyFrom_open Tryz.type57 (by kernel_rfl) (by kernel_rfl) (by kernel_rfl)
theorem ty59 : TyOk Tryz.prog 59 (tyFrom Tryz.t59 Tryz.t58.desc false) := tyFrom_open Tryz.type59 (by kernel_rfl) (by kernel_rfl) (by kernel_rfl)
theorem ty71 : TyOk Tryz.prog 71 (tyFrom Tryz.t71 Tryz.t71.desc true) := tyFrom_ok Tryz.type71 (by kernel_rfl)
theorem ty72 : TyOk Tryz.prog 72 (tyFrom Tryz.t72 Tryz.t72.desc true) := tyFrom_ok Tryz.type72 (by kernel_rfl)
theorem ty73 : TyOk Tryz.prog 73 (tyFrom Tryz.t73 Tryz.t73.desc true) := tyFrom_ok Tryz.type73 (by kernel_rfl)
theorem ty75 : TyOk Tryz.prog 75 (tyFrom Tryz.t75 Tryz.t74.desc false) := tyFrom_open Tryz.type75 (by kernel_rfl) (by kernel_rfl) (by kernel_rfl)
theorem ty78 : TyOk Tryz.prog 78 (tyFrom Tryz.t78 Tryz.t77.desc false) := tyFrom_open Tryz.type78 (by kernel_rfl) (by kernel_rfl) (by kernel_rfl)
theorem ty81 : TyOk Tryz.prog 81 (tyFrom Tryz.t81 Tryz.t3.desc true) := tyFrom_ok Tryz.type81 (by kernel_rfl)
theorem ty83 : TyOk Tryz.prog 83 (tyFrom Tryz.t83 Tryz.t82.desc false) := tyFrom_open Tryz.type83 (by kernel_rfl) (by kernel_rfl) (by kernel_rfl)
theorem ty88 : TyOk Tryz.prog 88 (tyFrom Tryz.t88 Tryz.t87.desc false) := tyFrom_open Tryz.type88 (by kernel_rfl) (by kernel_rfl) (by kernel_rfl)
theorem ty89 : TyOk Tryz.prog 89 (tyFrom Tryz.t89 Tryz.t89.desc true) := tyFrom_ok Tryz.type89 (by kernel_rfl)
theorem ty91 : TyOk Tryz.prog 91 (tyFrom Tryz.t91 Tryz.t90.desc false) := tyFrom_open Tryz.type91 (by kernel_rfl) (by kernel_rfl) (by kernel_rfl)
theorem ty93 : TyOk Tryz.prog 93 (tyFrom Tryz.t93 Tryz.t93.desc true) := tyFrom_ok Tryz.type93 (by kernel_rfl)
theorem ty95 : TyOk Tryz.prog 95 (tyFrom Tryz.t95 Tryz.t94.desc false) := tyFrom_open Tryz.type95 (by kernel_rfl) (by kernel_rfl) (by kernel_rfl)
theorem ty104 : TyOk Tryz.prog 104 (tyFrom Tryz.t104 Tryz.t104.desc true) := tyFrom_ok Tryz.type104 (by kernel_rfl)
theorem ty106 : TyOk Tryz.prog 106 (tyFrom Tryz.t106 Tryz.t105.desc false) := tyFrom_open Tryz.type106 (by kernel_rfl) (by kernel_rfl) (by kernel_rfl)
theorem ty109 : TyOk Tryz.prog 109 (tyFrom Tryz.t109 Tryz.t109.desc true) := tyFrom_ok Tryz.type109 (by kernel_rfl)
theorem ty112 : TyOk Tryz.prog 112 (tyFrom Tryz.t112 Tryz.t112.desc true) := tyFrom_ok Tryz.type112 (by kernel_rfl)
theorem ty113 : TyOk Tryz.prog 113 (tyFrom Tryz.t113 Tryz.t113.desc true) := tyFrom_ok Tryz.type113 (by kernel_rfl)
theorem ty118 : TyOk Tryz.prog 118 (tyFrom Tryz.t118 Tryz.t117.desc false) := tyFrom_open Tryz.type118 (by kernel_rfl) (by kernel_rfl) (by kernel_rfl)
theorem ty121 : TyOk Tryz.prog 121 (tyFrom Tryz.t121 Tryz.t3.desc true) := tyFrom_ok Tryz.type121 (by kernel_rfl)
theorem ty123 : TyOk Tryz.prog 123 (tyFrom Tryz.t123 Tryz.t122.desc false) := tyFrom_open Tryz.type123 (by kernel_rfl) (by kernel_rfl) (by kernel_rfl)
theorem ty132 : TyOk Tryz.prog 132 (tyFrom Tryz.t132 Tryz.t132.desc true) := tyFrom_ok Tryz.type132 (by kernel_rfl)
theorem ty146 : TyOk Tryz.prog 146 (tyFrom Tryz.t146 Tryz.t146.desc true) := tyFrom_ok Tryz.type146 (by kernel_rfl)
theorem ty147 : TyOk Tryz.prog 147 (tyFrom Tryz.t147 Tryz.t147.desc true) := tyFrom_ok Tryz.type147 (by kernel_rfl)
theorem ty150 : TyOk Tryz.prog 150 (tyFrom Tryz.t150 Tryz.t149.desc false) := tyFrom_open Tryz.type150 (by kernel_rfl) (by kernel_rfl) (by kernel_rfl)
theorem ty157 : TyOk Tryz.prog 157 (tyFrom Tryz.t157 Tryz.t156.desc false) := tyFrom_open Tryz.type157 (by kernel_rfl) (by kernel_rfl) (by kernel_rfl)
theorem ty168 : TyOk Tryz.prog 168 (tyFrom Tryz.t168 Tryz.t167.desc false) := tyFrom_open Tryz.type168 (by kernel_rfl) (by kernel_rfl) (by kernel_rfl)
theorem ty171 : TyOk Tryz.prog 171 (tyFrom Tryz.t171 Tryz.t171.desc true) := tyFrom_ok Tryz.type171 (by kernel_rfl)
theorem ty173 : TyOk Tryz.prog 173 (tyFrom Tryz.t173 Tryz.t172.desc false) := tyFrom_open Tryz.type173 (by kernel_rfl) (by kernel_rfl) (by kernel_rfl)
theorem ty174 : TyOk Tryz.prog 174 (tyFrom Tryz.t174 Tryz.t174.desc true) := tyFrom_ok Tryz.type174 (by kernel_rfl)
theorem ty176 : TyOk Tryz.prog 176 (tyFrom Tryz.t176 Tryz.t175.desc false) := tyFrom_open Tryz.type176 (by kernel_rfl) (by kernel_rfl) (by kernel_rfl)
theorem ty180 : TyOk Tryz.prog 180 (tyFrom Tryz.t180 Tryz.t180.desc true) := tyFrom_ok Tryz.type180 (by kernel_rfl)
theorem ty188 : TyOk Tryz.prog 188 (tyFrom Tryz.t188 Tryz.t3.desc true) := tyFrom_ok Tryz.type188 (by kernel_rfl)
theorem ty190 : TyOk Tryz.prog 190 (tyFrom Tryz.t190 Tryz.t189.desc false) := tyFrom_open Tryz.type190 (by kernel_rfl) (by kernel_rfl) (by kernel_rfl)
theorem ty194 : TyOk Tryz.prog 194 (tyFrom Tryz.t194 Tryz.t194.desc true) := tyFrom_ok Tryz.type194 (by kernel_rfl)
theorem ty196 : TyOk Tryz.prog 196 (tyFrom Tryz.t196 Tryz.t195.desc false) := tyFrom_open Tryz.type196 (by kernel_rfl) (by kernel_rfl) (by kernel_rfl)
theorem ty197 : TyOk Tryz.prog 197 (tyFrom Tryz.t197 Tryz.t197.desc true) := tyFrom_ok Tryz.type197 (by kernel_rfl)
theorem ty199 : TyOk Tryz.prog 199 (tyFrom Tryz.t199 Tryz.t198.desc false) := tyFrom_open Tryz.type199 (by kernel_rfl) (by kernel_rfl) (by kernel_rfl)
theorem ty202 : TyOk Tryz.prog 202 (tyFrom Tryz.t202 Tryz.t201.desc false) := tyFrom_open Tryz.type202 (by kernel_rfl) (by kernel_rfl) (by kernel_rfl)
theorem ty203 : TyOk Tryz.prog 203 (tyFrom Tryz.t203 Tryz.t203.desc true) := tyFrom_ok Tryz.type203 (by kernel_rfl)
theorem ty204 : TyOk Tryz.prog 204 (tyFrom Tryz.t204 Tryz.t204.desc true) := tyFrom_ok Tryz.type204 (by kernel_rfl)
theorem ty206 : TyOk Tryz.prog 206 (tyFrom Tryz.t206 Tryz.t205.desc false) := tyFrom_open Tryz.type206 (by kernel_rfl) (by kernel_rfl) (by kernel_rfl)
theorem ty207 : TyOk Tryz.prog 207 (tyFrom Tryz.t207 Tryz.t207.desc true) := tyFrom_ok Tryz.type207 (by kernel_rfl)
theorem ty209 : TyOk Tryz.prog 209 (tyFrom Tryz.t209 Tryz.t208.desc false) := tyFrom_open Tryz.type209 (by kernel_rfl) (by kernel_rfl) (by kernel_rfl)
theorem ty215 : TyOk Tryz.prog 215 (tyFrom Tryz.t215 Tryz.t215.desc true) := tyFrom_ok Tryz.type215 (by kernel_rfl)
theorem ty226 : TyOk Tryz.prog 226 (tyFrom Tryz.t226 Tryz.t225.desc false) := tyFrom_open Tryz.type226 (by kernel_rfl) (by kernel_rfl) (by kernel_rfl)
theorem ty232 : TyOk Tryz.prog 232 (tyFrom Tryz.t232 Tryz.t231.desc false) := tyFrom_open Tryz.type232 (by kernel_rfl) (by kernel_rfl) (by kernel_rfl)
theorem ty233 : TyOk Tryz.prog 233 (tyFrom Tryz.t233 Tryz.t233.desc true) := tyFrom_ok Tryz.type233 (by kernel_rfl)
theorem ty235 : TyOk Tryz.prog 235 (tyFrom Tryz.t235 Tryz.t234.desc false) := tyFrom_open Tryz.type235 (by kernel_rfl) (by kernel_rfl) (by kernel_rfl)
theorem ty236 : TyOk Tryz.prog 236 (tyFrom Tryz.t236 Tryz.t236.desc true) := tyFrom_ok Tryz.type236 (by kernel_rfl)
theorem ty237 : TyOk Tryz.prog 237 (tyFrom Tryz.t237 Tryz.t237.desc true) := tyFrom_ok Tryz.type237 (by kernel_rfl)
theorem ty239 : TyOk Tryz.prog 239 (tyFrom Tryz.t239 Tryz.t238.desc false) := tyFrom_open Tryz.type239 (by kernel_rfl) (by kernel_rfl) (by kernel_rfl)
theorem ty246 : TyOk Tryz.prog 246 (tyFrom Tryz.t246 Tryz.t9.desc true) := tyFrom_ok Tryz.type246 (by kernel_rfl)
theorem ty250 : TyOk Tryz.prog 250 (tyFrom Tryz.t250 Tryz.t249.desc false) := tyFrom_open Tryz.type250 (by kernel_rfl) (by kernel_rfl) (by kernel_rfl)
theorem ty256 : TyOk Tryz.prog 256 (tyFrom Tryz.t256 Tryz.t256.desc true) := tyFrom_ok Tryz.type256 (by kernel_rfl)
theorem ty260 : TyOk Tryz.prog 260 (tyFrom Tryz.t260 Tryz.t259.desc false) := tyFrom_open Tryz.type260 (by kernel_rfl) (by kernel_rfl) (by kernel_rfl)
theorem ty266 : TyOk Tryz.prog 266 (tyFrom Tryz.t266 Tryz.t266.desc true) := tyFrom_ok Tryz.type266 (by kernel_rfl)
theorem ty267 : TyOk Tryz.prog 267 (tyFrom Tryz.t267 Tryz.t267.desc true) := tyFrom_ok Tryz.type267 (by kernel_rfl)
theorem ty273 : TyOk Tryz.prog 273 (tyFrom Tryz.t273 Tryz.t272.desc false) := tyFrom_open Tryz.type273 (by kernel_rfl) (by kernel_rfl) (by kernel_rfl)
theorem ty278 : TyOk Tryz.prog 278 (tyFrom Tryz.t278 Tryz.t277.desc false) := tyFrom_open Tryz.type278 (by kernel_rfl) (by kernel_rfl) (by kernel_rfl)
theorem ty282 : TyOk Tryz.prog 282 (tyFrom Tryz.t282 Tryz.t281.desc false) := tyFrom_open Tryz.type282 (by kernel_rfl) (by kernel_rfl) (by kernel_rfl)
theorem ty285 : TyOk Tryz.prog 285 (tyFrom Tryz.t285 Tryz.t285.desc true) := tyFrom_ok Tryz.type285 (by kernel_rfl)
theorem ty288 : TyOk Tryz.prog 288 (tyFrom Tryz.t288 Tryz.t288.desc true) := tyFrom_ok Tryz.type288 (by kernel_rfl)
theorem ty290 : TyOk Tryz.prog 290 (tyFrom Tryz.t290 Tryz.t3.desc true) := tyFrom_ok Tryz.type290 (by kernel_rfl)
theorem ty291 : TyOk Tryz.prog 291 (tyFrom Tryz.t291 Tryz.t291.desc true) := tyFrom_ok Tryz.type291 (by kernel_rfl)
theorem ty293 : TyOk Tryz.prog 293 (tyFrom Tryz.t293 Tryz.t292.desc false) := tyFrom_open Tryz.type293 (by kernel_rfl) (by kernel_rfl) (by kernel_rfl)
theorem ty303 : TyOk Tryz.prog 303 (tyFrom Tryz.t303 Tryz.t302.desc false) := tyFrom_open Tryz.type303 (by kernel_rfl) (by kernel_rfl) (by kernel_rfl)
theorem ty320 : TyOk Tryz.prog 320 (tyFrom Tryz.t320 Tryz.t9.desc true) := tyFrom_ok Tryz.type320 (by kernel_rfl)
theorem ty322 : TyOk Tryz.prog 322 (tyFrom Tryz.t322 Tryz.t9.desc true) := tyFrom_ok Tryz.type322 (by kernel_rfl)
theorem ty328 : TyOk Tryz.prog 328 (tyFrom Tryz.t328 Tryz.t328.desc true) := tyFrom_ok Tryz.type328 (by kernel_rfl)
theorem ty330 : TyOk Tryz.prog 330 (tyFrom Tryz.t330 Tryz.t330.desc true) := tyFrom_ok Tryz.type330 (by kernel_rfl)
theorem ty332 : TyOk Tryz.prog 332 (tyFrom Tryz.t332 Tryz.t249.desc false) := tyFrom_open Tryz.type332 (by kernel_rfl) (by kernel_rfl) (by kernel_rfl)
theorem ty339 : TyOk Tryz.prog 339 (tyFrom Tryz.t339 Tryz.t339.desc true) := tyFrom_ok Tryz.type339 (by kernel_rfl)
theorem ty342 : TyOk Tryz.prog 342 (tyFrom Tryz.t342 Tryz.t341.desc false) := tyFrom_open Tryz.type342 (by kernel_rfl) (by kernel_rfl) (by kernel_rfl)
theorem ty346 : TyOk Tryz.prog 346 (tyFrom Tryz.t346 Tryz.t345.desc false) := tyFrom_open Tryz.type346 (by kernel_rfl) (by kernel_rfl) (by kernel_rfl)
theorem ty349 : TyOk Tryz.prog 349 (tyFrom Tryz.t349 Tryz.t349.desc true) := tyFrom_ok Tryz.type349 (by kernel_rfl)
theorem ty355 : TyOk Tryz.prog 355 (tyFrom Tryz.t355 Tryz.t355.desc true) := tyFrom_ok Tryz.type355 (by kernel_rfl)
theorem ty387 : TyOk Tryz.prog 387 (tyFrom Tryz.t387 Tryz.t386.desc false) := tyFrom_open Tryz.type387 (by kernel_rfl) (by kernel_rfl) (by kernel_rfl)
theorem ty397 : TyOk Tryz.prog 397 (tyFrom Tryz.t397 Tryz.t396.desc false) := tyFrom_open Tryz.type397 (by kernel_rfl) (by kernel_rfl) (by kernel_rfl)
theorem ty425 : TyOk Tryz.prog 425 (tyFrom Tryz.t425 Tryz.t424.desc true) := tyFrom_ok Tryz.type425 (by kernel_rfl)
theorem ty426 : TyOk Tryz.prog 426 (tyFrom Tryz.t426 Tryz.t426.desc true) := tyFrom_ok Tryz.type426 (by kernel_rfl)
theorem ty428 : TyOk Tryz.prog 428 (tyFrom Tryz.t428 Tryz.t427.desc false) := tyFrom_open Tryz.type428 (by kernel_rfl) (by kernel_rfl) (by kernel_rfl)
theorem fn0 : FnOk Tryz.prog 0 Tryz.f0 := ⟨Tryz.func0, fun _ => of_decide_eq_true (by kernel_rfl)⟩
theorem fn1 : FnOk Tryz.prog 1 Tryz.f1 := ⟨Tryz.func1, fun _ => of_decide_eq_true (by kernel_rfl)⟩
theorem fn2 : FnOk Tryz.prog 2 Tryz.f2 := ⟨Tryz.func2, fun _ => of_decide_eq_true (by kernel_rfl)⟩
theorem fn3 : FnOk Tryz.prog 3 Tryz.f3 := ⟨Tryz.func3, fun _ => of_decide_eq_true (by kernel_rfl)⟩
theorem fn4 : FnOk Tryz.prog 4 Tryz.f4 := ⟨Tryz.func4, fun _ => of_decide_eq_true (by kernel_rfl)⟩
theorem fn5 : FnOk Tryz.prog 5 Tryz.f5 := ⟨Tryz.func5, fun _ => of_decide_eq_true (by kernel_rfl)⟩
theorem fn6 : FnOk Tryz.prog 6 Tryz.f6 := ⟨Tryz.func6, fun _ => of_decide_eq_true (by kernel_rfl)⟩
theorem fn7 : FnOk Tryz.prog 7 Tryz.f7 := ⟨Tryz.func7, fun _ => of_decide_eq_true (by kernel_rfl)⟩
theorem fn8 : FnOk Tryz.prog 8 Tryz.f8 := ⟨Tryz.func8, fun _ => of_decide_eq_true (by kernel_rfl)⟩
theorem fn9 : FnOk Tryz.prog 9 Tryz.f9 := ⟨Tryz.func9, fun _ => of_decide_eq_true (by kernel_rfl)⟩
theorem fn10 : FnOk Tryz.prog 10 Tryz.f10 := ⟨Tryz.func10, fun _ => of_decide_eq_true (by kernel_rfl)⟩
theorem fn11 : FnOk Tryz.prog 11 Tryz.f11 := ⟨Tryz.func11, fun _ => of_decide_eq_true (by kernel_rfl)⟩
theorem fn12 : FnOk Tryz.prog 12 Tryz.f12 := ⟨Tryz.func12, fun _ => of_decide_eq_true (by kernel_rfl)⟩
theorem fn13 : FnOk Tryz.prog 13 Tryz.f13 := ⟨Tryz.func13, fun _ => of_decide_eq_true (by kernel_rfl)⟩
theorem fn14 : FnOk Tryz.prog 14 Tryz.f14 := ⟨Tryz.func14, fun _ => of_decide_eq_true (by kernel_rfl)⟩
theorem fn15 : FnOk Tryz.prog 15 Tryz.f15 := ⟨Tryz.func15, fun _ => of_decide_eq_true (by kernel_rfl)⟩
theorem fn16 : FnOk Tryz.prog 16 Tryz.f16 := ⟨Tryz.func16, fun _ => of_decide_eq_true (by kernel_rfl)⟩
theorem fn17 : FnOk Tryz.prog 17 Tryz.f17 := ⟨Tryz.func17, fun _ => of_decide_eq_true (by kernel_rfl)⟩
theorem fn18 : FnOk Tryz.prog 18 Tryz.f18 := ⟨Tryz.func18, fun _ => of_decide_eq_true (by kernel_rfl)⟩
theorem fn19 : FnOk Tryz.prog 19 Tryz.f19 := ⟨Tryz.func19, fun _ => of_decide_eq_true (by kernel_rfl)⟩
theorem fn20 : FnOk Tryz.prog 20 Tryz.f20 := ⟨Tryz.func20, fun _ => of_decide_eq_true (by kernel_rfl)⟩
theorem fn21 : FnOk Tryz.prog 21 Tryz.f21 := ⟨Tryz.func21, fun _ => of_decide_eq_true (by kernel_rfl)⟩
theorem fn22 : FnOk Tryz.prog 22 Tryz.f22 := ⟨Tryz.func22, fun _ => of_decide_eq_true (by kernel_rfl)⟩
theorem fn23 : FnOk Tryz.prog 23 Tryz.f23 := ⟨Tryz.func23, fun _ => of_decide_eq_true (by kernel_rfl)⟩
theorem fn24 : FnOk Tryz.prog 24 Tryz.f24 := ⟨Tryz.func24, fun _ => of_decide_eq_true (by kernel_rfl)⟩
theorem fn25 : FnOk Tryz.prog 25 Tryz.f25 := ⟨Tryz.func25, fun _ => of_decide_eq_true (by kernel_rfl)⟩
theorem fn26 : FnOk Tryz.prog 26 Tryz.f26 := ⟨Tryz.func26, fun _ => of_decide_eq_true (by kernel_rfl)⟩
theorem fn27 : FnOk Tryz.prog 27 Tryz.f27 := ⟨Tryz.func27, fun _ => of_decide_eq_true (by kernel_rfl)⟩
theorem fn28 : FnOk Tryz.prog 28 Tryz.f28 := ⟨Tryz.func28, fun _ => of_decide_eq_true (by kernel_rfl)⟩
theorem fn29 : FnOk Tryz.prog 29 Tryz.f29 := ⟨Tryz.func29, fun _ => of_decide_eq_true (by kernel_rfl)⟩
theorem fn30 : FnOk Tryz.prog 30 Tryz.f30 := ⟨Tryz.func30, fun _ => of_decide_eq_true (by kernel_rfl)⟩
theorem fn31 : FnOk Tryz.prog 31 Tryz.f31 := ⟨Tryz.func31, fun _ => of_decide_eq_true (by kernel_rfl)⟩
theorem fn32 : FnOk Tryz.prog 32 Tryz.f32 := ⟨Tryz.func32, fun _ => of_decide_eq_true (by kernel_rfl)⟩
theorem fn33 : FnOk Tryz.prog 33 Tryz.f33 := ⟨Tryz.func33, fun _ => of_decide_eq_true (by kernel_rfl)⟩
theorem fn34 : FnOk Tryz.prog 34 Tryz.f34 := ⟨Tryz.func34, fun _ => of_decide_eq_true (by kernel_rfl)⟩
theorem fn35 : FnOk Tryz.prog 35 Tryz.f35 := ⟨Tryz.func35, fun _ => of_decide_eq_true (by kernel_rfl)⟩
theorem fn36 : FnOk Tryz.prog 36 Tryz.f36 := ⟨Tryz.func36, fun _ => of_decide_eq_true (by kernel_rfl)⟩
theorem fn37 : FnOk Tryz.prog 37 Tryz.f37 := ⟨Tryz.func37, fun _ => of_decide_eq_true (by kernel_rfl)⟩
theorem fn38 : FnOk Tryz.prog 38 Tryz.f38 := ⟨Tryz.func38, fun _ => of_decide_eq_true (by kernel_rfl)⟩
theorem fn39 : FnOk Tryz.prog 39 Tryz.f39 := ⟨Tryz.func39, fun _ => of_decide_eq_true (by kernel_rfl)⟩
theorem fn40 : FnOk Tryz.prog 40 Tryz.f40 := ⟨Tryz.func40, fun _ => of_decide_eq_true (by kernel_rfl)⟩
theorem fn41 : FnOk Tryz.prog 41 Tryz.f41 := ⟨Tryz.func41, fun _ => of_decide_eq_true (by kernel_rfl)⟩
theorem fn42 : FnOk Tryz.prog 42 Tryz.f42 := ⟨Tryz.func42, fun _ => of_decide_eq_true (by kernel_rfl)⟩
theorem fn43 : FnOk Tryz.prog 43 Tryz.f43 := ⟨Tryz.func43, fun _ => of_decide_eq_true (by kernel_rfl)⟩
theorem fn44 : FnOk Tryz.prog 44 Tryz.f44 := ⟨Tryz.func44, fun _ => of_decide_eq_true (by kernel_rfl)⟩
theorem fn45 : FnOk Tryz.prog 45 Tryz.f45 := ⟨Tryz.func45, fun _ => of_decide_eq_true (by kernel_rfl)⟩
theorem fn46 : FnOk Tryz.prog 46 Tryz.f46 := ⟨Tryz.func46, fun _ => of_decide_eq_true (by kernel_rfl)⟩
theorem fn47 : FnOk Tryz.prog 47 Tryz.f47 := ⟨Tryz.func47, fun _ => of_decide_eq_true (by kernel_rfl)⟩
theorem fn48 : FnOk Tryz.prog 48 Tryz.f48 := ⟨Tryz.func48, fun _ => of_decide_eq_true (by kernel_rfl)⟩
theorem fn49 : FnOk Tryz.prog 49 Tryz.f49 := ⟨Tryz.func49, fun _ => of_decide_eq_true (by kernel_rfl)⟩
theorem fn50 : FnOk Tryz.prog 50 Tryz.f50 := ⟨Tryz.func50, fun _ => of_decide_eq_true (by kernel_rfl)⟩
theorem fn51 : FnOk Tryz.prog 51 Tryz.f51 := ⟨Tryz.func51, fun _ => of_decide_eq_true (by kernel_rfl)⟩
theorem fn52 : FnOk Tryz.prog 52 Tryz.f52 := ⟨Tryz.func52, fun _ => of_decide_eq_true (by kernel_rfl)⟩
theorem fn53 : FnOk Tryz.prog 53 Tryz.f53 := ⟨Tryz.func53, fun _ => of_decide_eq_true (by kernel_rfl)⟩
theorem fn54 : FnOk Tryz.prog 54 Tryz.f54 := ⟨Tryz.func54, fun _ => of_decide_eq_true (by kernel_rfl)⟩
theorem fn55 : FnOk Tryz.prog 55 Tryz.f55 := ⟨Tryz.func55, fun _ => of_decide_eq_true (by kernel_rfl)⟩
theorem fn56 : FnOk Tryz.prog 56 Tryz.f56 := ⟨Tryz.func56, fun _ => of_decide_eq_true (by kernel_rfl)⟩
theorem fn57 : FnOk Tryz.prog 57 Tryz.f57 := ⟨Tryz.func57, fun _ => of_decide_eq_true (by kernel_rfl)⟩
theorem fn58 : FnOk Tryz.prog 58 Tryz.f58 := ⟨Tryz.func58, fun _ => of_decide_eq_true (by kernel_rfl)⟩
theorem fn59 : FnOk Tryz.prog 59 Tryz.f59 := ⟨Tryz.func59, fun _ => of_decide_eq_true (by kernel_rfl)⟩
theorem fn60 : FnOk Tryz.prog 60 Tryz.f60 := ⟨Tryz.func60, fun _ => of_decide_eq_true (by kernel_rfl)⟩
theorem fn61 : FnOk Tryz.prog 61 Tryz.f61 := ⟨Tryz.func61, fun _ => of_decide_eq_true (by kernel_rfl)⟩
theorem fn62 : FnOk Tryz.prog 62 Tryz.f62 := ⟨Tryz.func62, fun _ => of_decide_eq_true (by kernel_rfl)⟩
theorem fn63 : FnOk Tryz.prog 63 Tryz.f63 := ⟨Tryz.func63, fun _ => of_decide_eq_true (by kernel_rfl)⟩
theorem fn64 : FnOk Tryz.prog 64 Tryz.f64 := ⟨Tryz.func64, fun _ => of_decide_eq_true (by kernel_rfl)⟩
theorem fn65 : FnOk Tryz.prog 65 Tryz.f65 := ⟨Tryz.func65, fun _ => of_decide_eq_true (by kernel_rfl)⟩
theorem fn66 : FnOk Tryz.prog 66 Tryz.f66 := ⟨Tryz.func66, fun _ => of_decide_eq_true (by kernel_rfl)⟩
theorem fn67 : FnOk Tryz.prog 67 Tryz.f67 := ⟨Tryz.func67, fun _ => of_decide_eq_true (by kernel_rfl)⟩
theorem fn68 : FnOk Tryz.prog 68 Tryz.f68 := ⟨Tryz.func68, fun _ => of_decide_eq_true (by kernel_rfl)⟩
theorem fn69 : FnOk Tryz.prog 69 Tryz.f69 := ⟨Tryz.func69, fun _ => of_decide_eq_true (by kernel_rfl)⟩
theorem fn70 : FnOk Tryz.prog 70 Tryz.f70 := ⟨Tryz.func70, fun _ => of_decide_eq_true (by kernel_rfl)⟩
theorem fn71 : FnOk Tryz.prog 71 Tryz.f71 := ⟨Tryz.func71, fun _ => of_decide_eq_true (by kernel_rfl)⟩
theorem fn72 : FnOk Tryz.prog 72 Tryz.f72 := ⟨Tryz.func72, fun _ => of_decide_eq_true (by kernel_rfl)⟩
theorem fn73 : FnOk Tryz.prog 73 Tryz.f73 := ⟨Tryz.func73, fun _ => of_decide_eq_true (by kernel_rfl)⟩
theorem fn74 : FnOk Tryz.prog 74 Tryz.f74 := ⟨Tryz.func74, fun _ => of_decide_eq_true (by kernel_rfl)⟩
theorem fn75 : FnOk Tryz.prog 75 Tryz.f75 := ⟨Tryz.func75, fun _ => of_decide_eq_true (by kernel_rfl)⟩
theorem fn76 : FnOk Tryz.prog 76 Tryz.f76 := ⟨Tryz.func76, fun _ => of_decide_eq_true (by kernel_rfl)⟩
theorem fn77 : FnOk Tryz.prog 77 Tryz.f77 := ⟨Tryz.func77, fun _ => of_decide_eq_true (by kernel_rfl)⟩
theorem fn78 : FnOk Tryz.prog 78 Tryz.f78 := ⟨Tryz.func78, fun _ => of_decide_eq_true (by kernel_rfl)⟩
theorem fn79 : FnOk Tryz.prog 79 Tryz.f79 := ⟨Tryz.func79, fun _ => of_decide_eq_true (by kernel_rfl)⟩
theorem fn80 : FnOk Tryz.prog 80 Tryz.f80 := ⟨Tryz.func80, fun _ => of_decide_eq_true (by kernel_rfl)⟩
theorem fn81 : FnOk Tryz.prog 81 Tryz.f81 := ⟨Tryz.func81, fun _ => of_decide_eq_true (by kernel_rfl)⟩
theorem fn82 : FnOk Tryz.prog 82 Tryz.f82 := ⟨Tryz.func82, fun _ => of_decide_eq_true (by kernel_rfl)⟩
theorem fn83 : FnOk Tryz.prog 83 Tryz.f83 := ⟨Tryz.func83, fun _ => of_decide_eq_true (by kernel_rfl)⟩
theorem fn84 : FnOk Tryz.prog 84 Tryz.f84 := ⟨Tryz.func84, fun _ => of_decide_eq_true (by kernel_rfl)⟩
theorem fn85 : FnOk Tryz.prog 85 Tryz.f85 := ⟨Tryz.func85, fun _ => of_decide_eq_true (by kernel_rfl)⟩
theorem fn86 : FnOk Tryz.prog 86 Tryz.f86 := ⟨Tryz.func86, fun _ => of_decide_eq_true (by kernel_rfl)⟩
theorem fn87 : FnOk Tryz.prog 87 Tryz.f87 := ⟨Tryz.func87, fun _ => of_decide_eq_true (by kernel_rfl)⟩
theorem fn88 : FnOk Tryz.prog 88 Tryz.f88 := ⟨Tryz.func88, fun _ => of_decide_eq_true (by kernel_rfl)⟩
theorem fn89 : FnOk Tryz.prog 89 Tryz.f89 := ⟨Tryz.func89, fun _ => of_decide_eq_true (by kernel_rfl)⟩
theorem fn90 : FnOk Tryz.prog 90 Tryz.f90 := ⟨Tryz.func90, fun _ => of_decide_eq_true (by kernel_rfl)⟩
theorem fn91 : FnOk Tryz.prog 91 Tryz.f91 := ⟨Tryz.func91, fun _ => of_decide_eq_true (by kernel_rfl)⟩
theorem fn92 : FnOk Tryz.prog 92 Tryz.f92 := ⟨Tryz.func92, fun _ => of_decide_eq_true (by kernel_rfl)⟩
theorem fn93 : FnOk Tryz.prog 93 Tryz.f93 := ⟨Tryz.func93, fun _ => of_decide_eq_true (by kernel_rfl)⟩
theorem fn94 : FnOk Tryz.prog 94 Tryz.f94 := ⟨Tryz.func94, fun _ => of_decide_eq_true (by kernel_rfl)⟩
theorem fn95 : FnOk Tryz.prog 95 Tryz.f95 := ⟨Tryz.func95, fun _ => of_decide_eq_true (by kernel_rfl)⟩
theorem fn96 : FnOk Tryz.prog 96 Tryz.f96 := ⟨Tryz.func96, fun _ => of_decide_eq_true (by kernel_rfl)⟩
theorem fn97 : FnOk Tryz.prog 97 Tryz.f97 := ⟨Tryz.func97, fun _ => of_decide_eq_true (by kernel_rfl)⟩
theorem fn98 : FnOk Tryz.prog 98 Tryz.f98 := ⟨Tryz.func98, fun _ => of_decide_eq_true (by kernel_rfl)⟩
theorem fn99 : FnOk Tryz.prog 99 Tryz.f99 := ⟨Tryz.func99, fun _ => of_decide_eq_true (by kernel_rfl)⟩
theorem fn100 : FnOk Tryz.prog 100 Tryz.f100 := ⟨Tryz.func100, fun _ => of_decide_eq_true (by kernel_rfl)⟩
theorem fn101 : FnOk Tryz.prog 101 Tryz.f101 := ⟨Tryz.func101, fun _ => of_decide_eq_true (by kernel_rfl)⟩
theorem fn102 : FnOk Tryz.prog 102 Tryz.f102 := ⟨Tryz.func102, fun _ => of_decide_eq_true (by kernel_rfl)⟩
theorem fn103 : FnOk Tryz.prog 103 Tryz.f103 := ⟨Tryz.func103, fun _ => of_decide_eq_true (by kernel_rfl)⟩
theorem fn104 : FnOk Tryz.prog 104 Tryz.f104 := ⟨Tryz.func104, fun _ => of_decide_eq_true (by kernel_rfl)⟩
theorem fn105 : FnOk Tryz.prog 105 Tryz.f105 := ⟨Tryz.func105, fun _ => of_decide_eq_true (by kernel_rfl)⟩
theorem fn106 : FnOk Tryz.prog 106 Tryz.f106 := ⟨Tryz.func106, fun _ => of_decide_eq_true (by kernel_rfl)⟩
theorem fn107 : FnOk Tryz.prog 107 Tryz.f107 := ⟨Tryz.func107, fun _ => of_decide_eq_true (by kernel_rfl)⟩
theorem fn108 : FnOk Tryz.prog 108 Tryz.f108 := ⟨Tryz.func108, fun _ => of_decide_eq_true (by kernel_rfl)⟩
theorem fn109 : FnOk Tryz.prog 109 Tryz.f109 := ⟨Tryz.func109, fun _ => of_decide_eq_true (by kernel_rfl)⟩
theorem fn110 : FnOk Tryz.prog 110 Tryz.f110 := ⟨Tryz.func110, fun _ => of_decide_eq_true (by kernel_rfl)⟩
theorem fn111 : FnOk Tryz.prog 111 Tryz.f111 := ⟨Tryz.func111, fun _ => of_decide_eq_true (by kernel_rfl)⟩
theorem fn112 : FnOk Tryz.prog 112 Tryz.f112 := ⟨Tryz.func112, fun _ => of_decide_eq_true (by kernel_rfl)⟩
theorem fn113 : FnOk Tryz.prog 113 Tryz.f113 := ⟨Tryz.func113, fun _ => of_decide_eq_true (by kernel_rfl)⟩
theorem fn114 : FnOk Tryz.prog 114 Tryz.f114 := ⟨Tryz.func114, fun _ => of_decide_eq_true (by kernel_rfl)⟩
theorem fn115 : FnOk Tryz.prog 115 Tryz.f115 := ⟨Tryz.func115, fun _ => of_decide_eq_true (by kernel_rfl)⟩
theorem fn116 : FnOk Tryz.prog 116 Tryz.f116 := ⟨Tryz.func116, fun _ => of_decide_eq_true (by kernel_rfl)⟩
theorem fn117 : FnOk Tryz.prog 117 Tryz.f117 := ⟨Tryz.func117, fun _ => of_decide_eq_true (by kernel_rfl)⟩
theorem fn118 : FnOk Tryz.prog 118 Tryz.f118 := ⟨Tryz.func118, fun _ => of_decide_eq_true (by kernel_rfl)⟩
theorem fn119 : FnOk Tryz.prog 119 Tryz.f119 := ⟨Tryz.func119, fun _ => of_decide_eq_true (by kernel_rfl)⟩
theorem fn120 : FnOk Tryz.prog 120 Tryz.f120 := ⟨Tryz.func120, fun _ => of_decide_eq_true (by kernel_rfl)⟩
theorem fn121 : FnOk Tryz.prog 121 Tryz.f121 := ⟨Tryz.func121, fun _ => of_decide_eq_true (by kernel_rfl)⟩
theorem fn122 : FnOk Tryz.prog 122 Tryz.f122 := ⟨Tryz.func122, fun _ => of_decide_eq_true (by kernel_rfl)⟩
theorem fn123 : FnOk Tryz.prog 123 Tryz.f123 := ⟨Tryz.func123, fun _ => of_decide_eq_true (by kernel_rfl)⟩
theorem fn124 : FnOk Tryz.prog 124 Tryz.f124 := ⟨Tryz.func124, fun _ => of_decide_eq_true (by kernel_rfl)⟩
theorem fn125 : FnOk Tryz.prog 125 Tryz.f125 := ⟨Tryz.func125, fun _ => of_decide_eq_true (by kernel_rfl)⟩
theorem fn126 : FnOk Tryz.prog 126 Tryz.f126 := ⟨Tryz.func126, fun _ => of_decide_eq_true (by kernel_rfl)⟩
theorem fn127 : FnOk Tryz.prog 127 Tryz.f127 := ⟨Tryz.func127, fun _ => of_decide_eq_true (by kernel_rfl)⟩
theorem fn128 : FnOk Tryz.prog 128 Tryz.f128 := ⟨Tryz.func128, fun _ => of_decide_eq_true (by kernel_rfl)⟩
theorem fn129 : FnOk Tryz.prog 129 Tryz.f129 := ⟨Tryz.func129, fun _ => of_decide_eq_true (by kernel_rfl)⟩
theorem fn130 : FnOk Tryz.prog 130 Tryz.f130 := ⟨Tryz.func130, fun _ => of_decide_eq_true (by kernel_rfl)⟩
theorem fn131 : FnOk Tryz.prog 131 Tryz.f131 := ⟨Tryz.func131, fun _ => of_decide_eq_true (by kernel_rfl)⟩
theorem fn132 : FnOk Tryz.prog 132 Tryz.f132 := ⟨Tryz.func132, fun _ => of_decide_eq_true (by kernel_rfl)⟩
theorem fn133 : FnOk Tryz.prog 133 Tryz.f133 := ⟨Tryz.func133, fun _ => of_decide_eq_true (by kernel_rfl)⟩
theorem fn134 : FnOk Tryz.prog 134 Tryz.f134 := ⟨Tryz.func134, fun _ => of_decide_eq_true (by kernel_rfl)⟩
theorem fn135 : FnOk Tryz.prog 135 Tryz.f135 := ⟨Tryz.func135, fun _ => of_decide_eq_true (by kernel_rfl)⟩
theorem fn136 : FnOk Tryz.prog 136 Tryz.f136 := ⟨Tryz.func136, fun _ => of_decide_eq_true (by kernel_rfl)⟩
theorem fn137 : FnOk Tryz.prog 137 Tryz.f137 := ⟨Tryz.func137, fun _ => of_decide_eq_true (by kernel_rfl)⟩
theorem fn138 : FnOk Tryz.prog 138 Tryz.f138 := ⟨Tryz.func138, fun _ => of_decide_eq_true (by kernel_rfl)⟩
theorem fn139 : FnOk Tryz.prog 139 Tryz.f139 := ⟨Tryz.func139, fun _ => of_decide_eq_true (by kernel_rfl)⟩
theorem fn140 : FnOk Tryz.prog 140 Tryz.f140 := ⟨Tryz.func140, fun _ => of_decide_eq_true (by kernel_rfl)⟩
theorem fn141 : FnOk Tryz.prog 141 Tryz.f141 := ⟨Tryz.func141, fun _ => of_decide_eq_true (by kernel_rfl)⟩
theorem fn142 : FnOk Tryz.prog 142 Tryz.f142 := ⟨Tryz.func142, fun _ => of_decide_eq_true (by kernel_rfl)⟩
theorem fn143 : FnOk Tryz.prog 143 Tryz.f143 := ⟨Tryz.func143, fun _ => of_decide_eq_true (by kernel_rfl)⟩
theorem fn144 : FnOk Tryz.prog 144 Tryz.f144 := ⟨Tryz.func144, fun _ => of_decide_eq_true (by kernel_rfl)⟩
theorem fn145 : FnOk Tryz.prog 145 Tryz.f145 := ⟨Tryz.func145, fun _ => of_decide_eq_true (by kernel_rfl)⟩
theorem fn146 : FnOk Tryz.prog 146 Tryz.f146 := ⟨Tryz.func146, fun _ => of_decide_eq_true (by kernel_rfl)⟩
theorem fn147 : FnOk Tryz.prog 147 Tryz.f147 := ⟨Tryz.func147, fun _ => of_decide_eq_true (by kernel_rfl)⟩
theorem fn148 : FnOk Tryz.prog 148 Tryz.f148 := ⟨Tryz.func148, fun _ => of_decide_eq_true (by kernel_rfl)⟩
theorem fn149 : FnOk Tryz.prog 149 Tryz.f149 := ⟨Tryz.func149, fun _ => of_decide_eq_true (by kernel_rfl)⟩
theorem fn150 : FnOk Tryz.prog 150 Tryz.f150 := ⟨Tryz.func150, fun _ => of_decide_eq_true (by kernel_rfl)⟩
theorem fn151 : FnOk Tryz.prog 151 Tryz.f151 := ⟨Tryz.func151, fun _ => of_decide_eq_true (by kernel_rfl)⟩
theorem fn152 : FnOk Tryz.prog 152 Tryz.f152 := ⟨Tryz.func152, fun _ => of_decide_eq_true (by kernel_rfl)⟩
theorem fn153 : FnOk Tryz.prog 153 Tryz.f153 := ⟨Tryz.func153, fun _ => of_decide_eq_true (by kernel_rfl)⟩
theorem fn154 : FnOk Tryz.prog 154 Tryz.f154 := ⟨Tryz.func154, fun _ => of_decide_eq_true (by kernel_rfl)⟩
theorem fn155 : FnOk Tryz.prog 155 Tryz.f155 := ⟨Tryz.func155, fun _ => of_decide_eq_true (by kernel_rfl)⟩
theorem fn156 : FnOk Tryz.prog 156 Tryz.f156 := ⟨Tryz.func156, fun _ => of_decide_eq_true (by kernel_rfl)⟩
theorem fn157 : FnOk Tryz.prog 157 Tryz.f157 := ⟨Tryz.func157, fun _ => of_decide_eq_true (by kernel_rfl)⟩
theorem fn158 : FnOk Tryz.prog 158 Tryz.f158 := ⟨Tryz.func158, fun _ => of_decide_eq_true (by kernel_rfl)⟩
theorem fn159 : FnOk Tryz.prog 159 Tryz.f159 := ⟨Tryz.func159, fun _ => of_decide_eq_true (by kernel_rfl)⟩
theorem fn160 : FnOk Tryz.prog 160 Tryz.f160 := ⟨Tryz.func160, fun _ => of_decide_eq_true (by kernel_rfl)⟩
theorem fn161 : FnOk Tryz.prog 161 Tryz.f161 := ⟨Tryz.func161, fun _ => of_decide_eq_true (by kernel_rfl)⟩
theorem fn162 : FnOk Tryz.prog 162 Tryz.f162 := ⟨Tryz.func162, fun _ => of_decide_eq_true (by kernel_rfl)⟩
theorem fn163 : FnOk Tryz.prog 163 Tryz.f163 := ⟨Tryz.func163, fun _ => of_decide_eq_true (by kernel_rfl)⟩
theorem fn164 : FnOk Tryz.prog 164 Tryz.f164 := ⟨Tryz.func164, fun _ => of_decide_eq_true (by kernel_rfl)⟩
theorem fn165 : FnOk Tryz.prog 165 Tryz.f165 := ⟨Tryz.func165, fun _ => of_decide_eq_true (by kernel_rfl)⟩
theorem fn166 : FnOk Tryz.prog 166 Tryz.f166 := ⟨Tryz.func166, fun _ => of_decide_eq_true (by kernel_rfl)⟩
theorem fn167 : FnOk Tryz.prog 167 Tryz.f167 := ⟨Tryz.func167, fun _ => of_decide_eq_true (by kernel_rfl)⟩
theorem fn168 : FnOk Tryz.prog 168 Tryz.f168 := ⟨Tryz.func168, fun _ => of_decide_eq_true (by kernel_rfl)⟩
theorem fn169 : FnOk Tryz.prog 169 Tryz.f169 := ⟨Tryz.func169, fun _ => of_decide_eq_true (by kernel_rfl)⟩
theorem fn170 : FnOk Tryz.prog 170 Tryz.f170 := ⟨Tryz.func170, fun _ => of_decide_eq_true (by kernel_rfl)⟩
theorem fn171 : FnOk Tryz.prog 171 Tryz.f171 := ⟨Tryz.func171, fun _ => of_decide_eq_true (by kernel_rfl)⟩
theorem fn172 : FnOk Tryz.prog 172 Tryz.f172 := ⟨Tryz.func172, fun _ => of_decide_eq_true (by kernel_rfl)⟩
theorem fn173 : FnOk Tryz.prog 173 Tryz.f173 := ⟨Tryz.func173, fun _ => of_decide_eq_true (by kernel_rfl)⟩
theorem fn174 : FnOk Tryz.prog 174 Tryz.f174 := ⟨Tryz.func174, fun _ => of_decide_eq_true (by kernel_rfl)⟩
theorem fn175 : FnOk Tryz.prog 175 Tryz.f175 := ⟨Tryz.func175, fun _ => of_decide_eq_true (by kernel_rfl)⟩
theorem fn176 : FnOk Tryz.prog 176 Tryz.f176 := ⟨Tryz.func176, fun _ => of_decide_eq_true (by kernel_rfl)⟩
theorem fn177 : FnOk Tryz.prog 177 Tryz.f177 := ⟨Tryz.func177, fun _ => of_decide_eq_true (by kernel_rfl)⟩
theorem fn178 : FnOk Tryz.prog 178 Tryz.f178 := ⟨Tryz.func178, fun _ => of_decide_eq_true (by kernel_rfl)⟩
theorem fn179 : FnOk Tryz.prog 179 Tryz.f179 := ⟨Tryz.func179, fun _ => of_decide_eq_true (by kernel_rfl)⟩
theorem fn180 : FnOk Tryz.prog 180 Tryz.f180 := ⟨Tryz.func180, fun _ => of_decide_eq_true (by kernel_rfl)⟩
theorem fn181 : FnOk Tryz.prog 181 Tryz.f181 := ⟨Tryz.func181, fun _ => of_decide_eq_true (by kernel_rfl)⟩
theorem fn182 : FnOk Tryz.prog 182 Tryz.f182 := ⟨Tryz.func182, fun _ => of_decide_eq_true (by kernel_rfl)⟩
theorem fn183 : FnOk Tryz.prog 183 Tryz.f183 := ⟨Tryz.func183, fun _ => of_decide_eq_true (by kernel_rfl)⟩
theorem fn184 : FnOk Tryz.prog 184 Tryz.f184 := ⟨Tryz.func184, fun _ => of_decide_eq_true (by kernel_rfl)⟩
theorem fn185 : FnOk Tryz.prog 185 Tryz.f185 := ⟨Tryz.func185, fun _ => of_decide_eq_true (by kernel_rfl)⟩
theorem fn186 : FnOk Tryz.prog 186 Tryz.f186 := ⟨Tryz.func186, fun _ => of_decide_eq_true (by kernel_rfl)⟩
theorem fn187 : FnOk Tryz.prog 187 Tryz.f187 := ⟨Tryz.func187, fun _ => of_decide_eq_true (by kernel_rfl)⟩
theorem fn188 : FnOk Tryz.prog 188 Tryz.f188 := ⟨Tryz.func188, fun _ => of_decide_eq_true (by kernel_rfl)⟩
theorem fn189 : FnOk Tryz.prog 189 Tryz.f189 := ⟨Tryz.func189, fun _ => of_decide_eq_true (by kernel_rfl)⟩
theorem fn190 : FnOk Tryz.prog 190 Tryz.f190 := ⟨Tryz.func190, fun _ => of_decide_eq_true (by kernel_rfl)⟩
theorem fn191 : FnOk Tryz.prog 191 Tryz.f191 := ⟨Tryz.func191, fun _ => of_decide_eq_true (by kernel_rfl)⟩
theorem fn192 : FnOk Tryz.prog 192 Tryz.f192 := ⟨Tryz.func192, fun _ => of_decide_eq_true (by kernel_rfl)⟩
theorem fn193 : FnOk Tryz.prog 193 Tryz.f193 := ⟨Tryz.func193, fun _ => of_decide_eq_true (by kernel_rfl)⟩
theorem fn194 : FnOk Tryz.prog 194 Tryz.f194 := ⟨Tryz.func194, fun _ => of_decide_eq_true (by kernel_rfl)⟩
theorem fn195 : FnOk Tryz.prog 195 Tryz.f195 := ⟨Tryz.func195, fun _ => of_decide_eq_true (by kernel_rfl)⟩
theorem fn196 : FnOk Tryz.prog 196 Tryz.f196 := ⟨Tryz.func196, fun _ => of_decide_eq_true (by kernel_rfl)⟩
theorem fn197 : FnOk Tryz.prog 197 Tryz.f197 := ⟨Tryz.func197, fun _ => of_decide_eq_true (by kernel_rfl)⟩
theorem fn198 : FnOk Tryz.prog 198 Tryz.f198 := ⟨Tryz.func198, fun _ => of_decide_eq_true (by kernel_rfl)⟩
theorem fn199 : FnOk Tryz.prog 199 Tryz.f199 := ⟨Tryz.func199, fun _ => of_decide_eq_true (by kernel_rfl)⟩
theorem fn200 : FnOk Tryz.prog 200 Tryz.f200 := ⟨Tryz.func200, fun _ => of_decide_eq_true (by kernel_rfl)⟩
theorem fn201 : FnOk Tryz.prog 201 Tryz.f201 := ⟨Tryz.func201, fun _ => of_decide_eq_true (by kernel_rfl)⟩
theorem fn202 : FnOk Tryz.prog 202 Tryz.f202 := ⟨Tryz.func202, fun _ => of_decide_eq_true (by kernel_rfl)⟩
theorem fn203 : FnOk Tryz.prog 203 Tryz.f203 := ⟨Tryz.func203, fun _ => of_decide_eq_true (by kernel_rfl)⟩
theorem fn204 : FnOk Tryz.prog 204 Tryz.f204 := ⟨Tryz.func204, fun _ => of_decide_eq_true (by kernel_rfl)⟩
theorem fn205 : FnOk Tryz.prog 205 Tryz.f205 := ⟨Tryz.func205, fun _ => of_decide_eq_true (by kernel_rfl)⟩
theorem fn206 : FnOk Tryz.prog 206 Tryz.f206 := ⟨Tryz.func206, fun _ => of_decide_eq_true (by kernel_rfl)⟩
theorem fn207 : FnOk Tryz.prog 207 Tryz.f207 := ⟨Tryz.func207, fun _ => of_decide_eq_true (by kernel_rfl)⟩
theorem fn208 : FnOk Tryz.prog 208 Tryz.f208 := ⟨Tryz.func208, fun _ => of_decide_eq_true (by kernel_rfl)⟩
theorem fn209 : FnOk Tryz.prog 209 Tryz.f209 := ⟨Tryz.func209, fun _ => of_decide_eq_true (by kernel_rfl)⟩
theorem fn210 : FnOk Tryz.prog 210 Tryz.f210 := ⟨Tryz.func210, fun _ => of_decide_eq_true (by kernel_rfl)⟩
theorem fn211 : FnOk Tryz.prog 211 Tryz.f211 := ⟨Tryz.func211, fun _ => of_decide_eq_true (by kernel_rfl)⟩
theorem fn212 : FnOk Tryz.prog 212 Tryz.f212 := ⟨Tryz.func212, fun _ => of_decide_eq_true (by kernel_rfl)⟩
theorem fn213 : FnOk Tryz.prog 213 Tryz.f213 := ⟨Tryz.func213, fun _ => of_decide_eq_true (by kernel_rfl)⟩
theorem fn214 : FnOk Tryz.prog 214 Tryz.f214 := ⟨Tryz.func214, fun _ => of_decide_eq_true (by kernel_rfl)⟩
theorem fn215 : FnOk Tryz.prog 215 Tryz.f215 := ⟨Tryz.func215, fun _ => of_decide_eq_true (by kernel_rfl)⟩
theorem fn216 : FnOk Tryz.prog 216 Tryz.f216 := ⟨Tryz.func216, fun _ => of_decide_eq_true (by kernel_rfl)⟩
theorem fn217 : FnOk Tryz.prog 217 Tryz.f217 := ⟨Tryz.func217, fun _ => of_decide_eq_true (by kernel_rfl)⟩
theorem fn218 : FnOk Tryz.prog 218 Tryz.f218 := ⟨Tryz.func218, fun _ => of_decide_eq_true (by kernel_rfl)⟩
theorem fn219 : FnOk Tryz.prog 219 Tryz.f219 := ⟨Tryz.func219, fun _ => of_decide_eq_true (by kernel_rfl)⟩
theorem fn220 : FnOk Tryz.prog 220 Tryz.f220 := ⟨Tryz.func220, fun _ => of_decide_eq_true (by kernel_rfl)⟩
theorem fn221 : FnOk Tryz.prog 221 Tryz.f221 := ⟨Tryz.func221, fun _ => of_decide_eq_true (by kernel_rfl)⟩
theorem fn222 : FnOk Tryz.prog 222 Tryz.f222 := ⟨Tryz.func222, fun _ => of_decide_eq_true (by kernel_rfl)⟩
theorem fn223 : FnOk Tryz.prog 223 Tryz.f223 := ⟨Tryz.func223, fun _ => of_decide_eq_true (by kernel_rfl)⟩
theorem fn224 : FnOk Tryz.prog 224 Tryz.f224 := ⟨Tryz.func224, fun _ => of_decide_eq_true (by kernel_rfl)⟩
theorem fn225 : FnOk Tryz.prog 225 Tryz.f225 := ⟨Tryz.func225, fun _ => of_decide_eq_true (by kernel_rfl)⟩
theorem fn226 : FnOk Tryz.prog 226 Tryz.f226 := ⟨Tryz.func226, fun _ => of_decide_eq_true (by kernel_rfl)⟩
theorem fn227 : FnOk Tryz.prog 227 Tryz.f227 := ⟨Tryz.func227, fun _ => of_decide_eq_true (by kernel_rfl)⟩
theorem fn228 : FnOk Tryz.prog 228 Tryz.f228 := ⟨Tryz.func228, fun _ => of_decide_eq_true (by kernel_rfl)⟩
theorem fn229 : FnOk Tryz.prog 229 Tryz.f229 := ⟨Tryz.func229, fun _ => of_decide_eq_true (by kernel_rfl)⟩
theorem fn230 : FnOk Tryz.prog 230 Tryz.f230 := ⟨Tryz.func230, fun _ => of_decide_eq_true (by kernel_rfl)⟩
theorem fn231 : FnOk Tryz.prog 231 Tryz.f231 := ⟨Tryz.func231, fun _ => of_decide_eq_true (by kernel_rfl)⟩
theorem fn232 : FnOk Tryz.prog 232 Tryz.f232 := ⟨Tryz.func232, fun _ => of_decide_eq_true (by kernel_rfl)⟩
theorem fn233 : FnOk Tryz.prog 233 Tryz.f233 := ⟨Tryz.func233, fun _ => of_decide_eq_true (by kernel_rfl)⟩
theorem fn234 : FnOk Tryz.prog 234 Tryz.f234 := ⟨Tryz.func234, fun _ => of_decide_eq_true (by kernel_rfl)⟩
theorem fn235 : FnOk Tryz.prog 235 Tryz.f235 := ⟨Tryz.func235, fun _ => of_decide_eq_true (by kernel_rfl)⟩
theorem fn236 : FnOk Tryz.prog 236 Tryz.f236 := ⟨Tryz.func236, fun _ => of_decide_eq_true (by kernel_rfl)⟩
theorem fn237 : FnOk Tryz.prog 237 Tryz.f237 := ⟨Tryz.func237, fun _ => of_decide_eq_true (by kernel_rfl)⟩
theorem fn238 : FnOk Tryz.prog 238 Tryz.f238 := ⟨Tryz.func238, fun _ => of_decide_eq_true (by kernel_rfl)⟩
theorem fn239 : FnOk Tryz.prog 239 Tryz.f239 := ⟨Tryz.func239, fun _ => of_decide_eq_true (by kernel_rfl)⟩
theorem fn240 : FnOk Tryz.prog 240 Tryz.f240 := ⟨Tryz.func240, fun _ => of_decide_eq_true (by kernel_rfl)⟩
theorem fn241 : FnOk Tryz.prog 241 Tryz.f241 := ⟨Tryz.func241, fun _ => of_decide_eq_true (by kernel_rfl)⟩
theorem fn242 : FnOk Tryz.prog 242 Tryz.f242 := ⟨Tryz.func242, fun _ => of_decide_eq_true (by kernel_rfl)⟩
theorem fn243 : FnOk Tryz.prog 243 Tryz.f243 := ⟨Tryz.func243, fun _ => of_decide_eq_true (by kernel_rfl)⟩
theorem fn244 : FnOk Tryz.prog 244 Tryz.f244 := ⟨Tryz.func244, fun _ => of_decide_eq_true (by kernel_rfl)⟩
theorem fn245 : FnOk Tryz.prog 245 Tryz.f245 := ⟨Tryz.func245, fun _ => of_decide_eq_true (by kernel_rfl)⟩
theorem fn246 : FnOk Tryz.prog 246 Tryz.f246 := ⟨Tryz.func246, fun _ => of_decide_eq_true (by kernel_rfl)⟩
theorem fn247 : FnOk Tryz.prog 247 Tryz.f247 := ⟨Tryz.func247, fun _ => of_decide_eq_true (by kernel_rfl)⟩
theorem fn248 : FnOk Tryz.prog 248 Tryz.f248 := ⟨Tryz.func248, fun _ => of_decide_eq_true (by kernel_rfl)⟩
theorem fn249 : FnOk Tryz.prog 249 Tryz.f249 := ⟨Tryz.func249, fun _ => of_decide_eq_true (by kernel_rfl)⟩
theorem fn250 : FnOk Tryz.prog 250 Tryz.f250 := ⟨Tryz.func250, fun _ => of_decide_eq_true (by kernel_rfl)⟩
theorem fn251 : FnOk Tryz.prog 251 Tryz.f251 := ⟨Tryz.func251, fun _ => of_decide_eq_true (by kernel_rfl)⟩
theorem fn252 : FnOk Tryz.prog 252 Tryz.f252 := ⟨Tryz.func252, fun _ => of_decide_eq_true (by kernel_rfl)⟩
theorem fn253 : FnOk Tryz.prog 253 Tryz.f253 := ⟨Tryz.func253, fun _ => of_decide_eq_true (by kernel_rfl)⟩
theorem fn254 : FnOk Tryz.prog 254 Tryz.f254 := ⟨Tryz.func254, fun _ => of_decide_eq_true (by kernel_rfl)⟩
theorem fn255 : FnOk Tryz.prog 255 Tryz.f255 := ⟨Tryz.func255, fun _ => of_decide_eq_true (by kernel_rfl)⟩
theorem fn256 : FnOk Tryz.prog 256 Tryz.f256 := ⟨Tryz.func256, fun _ => of_decide_eq_true (by kernel_rfl)⟩
theorem fn257 : FnOk Tryz.prog 257 Tryz.f257 := ⟨Tryz.func257, fun _ => of_decide_eq_true (by kernel_rfl)⟩
theorem fn258 : FnOk Tryz.prog 258 Tryz.f258 := ⟨Tryz.func258, fun _ => of_decide_eq_true (by kernel_rfl)⟩
theorem fn259 : FnOk Tryz.prog 259 Tryz.f259 := ⟨Tryz.func259, fun _ => of_decide_eq_true (by kernel_rfl)⟩
theorem fn260 : FnOk Tryz.prog 260 Tryz.f260 := ⟨Tryz.func260, fun _ => of_decide_eq_true (by kernel_rfl)⟩
theorem fn261 : FnOk Tryz.prog 261 Tryz.f261 := ⟨Tryz.func261, fun _ => of_decide_eq_true (by kernel_rfl)⟩
theorem fn262 : FnOk Tryz.prog 262 Tryz.f262 := ⟨Tryz.func262, fun _ => of_decide_eq_true (by kernel_rfl)⟩
theorem fn263 : FnOk Tryz.prog 263 Tryz.f263 := ⟨Tryz.func263, fun _ => of_decide_eq_true (by kernel_rfl)⟩
theorem fn264 : FnOk Tryz.prog 264 Tryz.f264 := ⟨Tryz.func264, fun _ => of_decide_eq_true (by kernel_rfl)⟩
theorem fn265 : FnOk Tryz.prog 265 Tryz.f265 := ⟨Tryz.func265, fun _ => of_decide_eq_true (by kernel_rfl)⟩
theorem fn266 : FnOk Tryz.prog 266 Tryz.f266 := ⟨Tryz.func266, fun _ => of_decide_eq_true (by kernel_rfl)⟩
theorem fn267 : FnOk Tryz.prog 267 Tryz.f267 := ⟨Tryz.func267, fun _ => of_decide_eq_true (by kernel_rfl)⟩
theorem fn268 : FnOk Tryz.prog 268 Tryz.f268 := ⟨Tryz.func268, fun _ => of_decide_eq_true (by kernel_rfl)⟩
theorem fn269 : FnOk Tryz.prog 269 Tryz.f269 := ⟨Tryz.func269, fun _ => of_decide_eq_true (by kernel_rfl)⟩
theorem fn270 : FnOk Tryz.prog 270 Tryz.f270 := ⟨Tryz.func270, fun _ => of_decide_eq_true (by kernel_rfl)⟩
theorem fn271 : FnOk Tryz.prog 271 Tryz.f271 := ⟨Tryz.func271, fun _ => of_decide_eq_true (by kernel_rfl)⟩
theorem fn272 : FnOk Tryz.prog 272 Tryz.f272 := ⟨Tryz.func272, fun _ => of_decide_eq_true (by kernel_rfl)⟩
theorem fn273 : FnOk Tryz.prog 273 Tryz.f273 := ⟨Tryz.func273, fun _ => of_decide_eq_true (by kernel_rfl)⟩
theorem fn274 : FnOk Tryz.prog 274 Tryz.f274 := ⟨Tryz.func274, fun _ => of_decide_eq_true (by kernel_rfl)⟩
theorem fn275 : FnOk Tryz.prog 275 Tryz.f275 := ⟨Tryz.func275, fun _ => of_decide_eq_true (by kernel_rfl)⟩
theorem fn276 : FnOk Tryz.prog 276 Tryz.f276 := ⟨Tryz.func276, fun _ => of_decide_eq_true (by kernel_rfl)⟩
theorem fn277 : FnOk Tryz.prog 277 Tryz.f277 := ⟨Tryz.func277, fun _ => of_decide_eq_true (by kernel_rfl)⟩
theorem fn278 : FnOk Tryz.prog 278 Tryz.f278 := ⟨Tryz.func278, fun _ => of_decide_eq_true (by kernel_rfl)⟩
theorem fn279 : FnOk Tryz.prog 279 Tryz.f279 := ⟨Tryz.func279, fun _ => of_decide_eq_true (by kernel_rfl)⟩
theorem fn280 : FnOk Tryz.prog 280 Tryz.f280 := ⟨Tryz.func280, fun _ => of_decide_eq_true (by kernel_rfl)⟩
theorem fn281 : FnOk Tryz.prog 281 Tryz.f281 := ⟨Tryz.func281, fun _ => of_decide_eq_true (by kernel_rfl)⟩
theorem fn282 : FnOk Tryz.prog 282 Tryz.f282 := ⟨Tryz.func282, fun _ => of_decide_eq_true (by kernel_rfl)⟩
theorem fn283 : FnOk Tryz.prog 283 Tryz.f283 := ⟨Tryz.func283, fun _ => of_decide_eq_true (by kernel_rfl)⟩
theorem fn284 : FnOk Tryz.prog 284 Tryz.f284 := ⟨Tryz.func284, fun _ => of_decide_eq_true (by kernel_rfl)⟩
theorem fn285 : FnOk Tryz.prog 285 Tryz.f285 := ⟨Tryz.func285, fun _ => of_decide_eq_true (by kernel_rfl)⟩
theorem fn286 : FnOk Tryz.prog 286 Tryz.f286 := ⟨Tryz.func286, fun _ => of_decide_eq_true (by kernel_rfl)⟩
theorem fn287 : FnOk Tryz.prog 287 Tryz.f287 := ⟨Tryz.func287, fun _ => of_decide_eq_true (by kernel_rfl)⟩
theorem fn288 : FnOk Tryz.prog 288 Tryz.f288 := ⟨Tryz.func288, fun _ => of_decide_eq_true (by kernel_rfl)⟩
theorem fn289 : FnOk Tryz.prog 289 Tryz.f289 := ⟨Tryz.func289, fun _ => of_decide_eq_true (by kernel_rfl)⟩
theorem fn290 : FnOk Tryz.prog 290 Tryz.f290 := ⟨Tryz.func290, fun _ => of_decide_eq_true (by kernel_rfl)⟩
theorem fn291 : FnOk Tryz.prog 291 Tryz.f291 := ⟨Tryz.func291, fun _ => of_decide_eq_true (by kernel_rfl)⟩
theorem fn292 : FnOk Tryz.prog 292 Tryz.f292 := ⟨Tryz.func292, fun _ => of_decide_eq_true (by kernel_rfl)⟩
theorem fn293 : FnOk Tryz.prog 293 Tryz.f293 := ⟨Tryz.func293, fun _ => of_decide_eq_true (by kernel_rfl)⟩
theorem fn294 : FnOk Tryz.prog 294 Tryz.f294 := ⟨Tryz.func294, fun _ => of_decide_eq_true (by kernel_rfl)⟩
theorem fn295 : FnOk Tryz.prog 295 Tryz.f295 := ⟨Tryz.func295, fun _ => of_decide_eq_true (by kernel_rfl)⟩
theorem fn296 : FnOk Tryz.prog 296 Tryz.f296 := ⟨Tryz.func296, fun _ => of_decide_eq_true (by kernel_rfl)⟩
theorem fn297 : FnOk Tryz.prog 297 Tryz.f297 := ⟨Tryz.func297, fun _ => of_decide_eq_true (by kernel_rfl)⟩
theorem fn298 : FnOk Tryz.prog 298 Tryz.f298 := ⟨Tryz.func298, fun _ => of_decide_eq_true (by kernel_rfl)⟩
theorem fn299 : FnOk Tryz.prog 299 Tryz.f299 := ⟨Tryz.func299, fun _ => of_decide_eq_true (by kernel_rfl)⟩
theorem fn300 : FnOk Tryz.prog 300 Tryz.f300 := ⟨Tryz.func300, fun _ => of_decide_eq_true (by kernel_rfl)⟩
theorem fn301 : FnOk Tryz.prog 301 Tryz.f301 := ⟨Tryz.func301, fun _ => of_decide_eq_true (by kernel_rfl)⟩
theorem fn302 : FnOk Tryz.prog 302 Tryz.f302 := ⟨Tryz.func302, fun _ => of_decide_eq_true (by kernel_rfl)⟩
theorem fn303 : FnOk Tryz.prog 303 Tryz.f303 := ⟨Tryz.func303, fun _ => of_decide_eq_true (by kernel_rfl)⟩
theorem fn304 : FnOk Tryz.prog 304 Tryz.f304 := ⟨Tryz.func304, fun _ => of_decide_eq_true (by kernel_rfl)⟩
theorem fn305 : FnOk Tryz.prog 305 Tryz.f305 := ⟨Tryz.func305, fun _ => of_decide_eq_true (by kernel_rfl)⟩
theorem fn306 : FnOk Tryz.prog 306 Tryz.f306 := ⟨Tryz.func306, fun _ => of_decide_eq_true (by kernel_rfl)⟩
theorem fn307 : FnOk Tryz.prog 307 Tryz.f307 := ⟨Tryz.func307, fun _ => of_decide_eq_true (by kernel_rfl)⟩
theorem fn308 : FnOk Tryz.prog 308 Tryz.f308 := ⟨Tryz.func308, fun _ => of_decide_eq_true (by kernel_rfl)⟩
theorem fn309 : FnOk Tryz.prog 309 Tryz.f309 := ⟨Tryz.func309, fun _ => of_decide_eq_true (by kernel_rfl)⟩
theorem fn310 : FnOk Tryz.prog 310 Tryz.f310 := ⟨Tryz.func310, fun _ => of_decide_eq_true (by kernel_rfl)⟩
theorem fn311 : FnOk Tryz.prog 311 Tryz.f311 := ⟨Tryz.func311, fun _ => of_decide_eq_true (by kernel_rfl)⟩
theorem fn312 : FnOk Tryz.prog 312 Tryz.f312 := ⟨Tryz.func312, fun _ => of_decide_eq_true (by kernel_rfl)⟩
theorem fn313 : FnOk Tryz.prog 313 Tryz.f313 := ⟨Tryz.func313, fun _ => of_decide_eq_true (by kernel_rfl)⟩
theorem fn314 : FnOk Tryz.prog 314 Tryz.f314 := ⟨Tryz.func314, fun _ => of_decide_eq_true (by kernel_rfl)⟩
theorem fn315 : FnOk Tryz.prog 315 Tryz.f315 := ⟨Tryz.func315, fun _ => of_decide_eq_true (by kernel_rfl)⟩
theorem fn316 : FnOk Tryz.prog 316 Tryz.f316 := ⟨Tryz.func316, fun _ => of_decide_eq_true (by kernel_rfl)⟩
theorem fn317 : FnOk Tryz.prog 317 Tryz.f317 := ⟨Tryz.func317, fun _ => of_decide_eq_true (by kernel_rfl)⟩
theorem fn318 : FnOk Tryz.prog 318 Tryz.f318 := ⟨Tryz.func318, fun _ => of_decide_eq_true (by kernel_rfl)⟩
theorem fn319 : FnOk Tryz.prog 319 Tryz.f319 := ⟨Tryz.func319, fun _ => of_decide_eq_true (by kernel_rfl)⟩
theorem fn320 : FnOk Tryz.prog 320 Tryz.f320 := ⟨Tryz.func320, fun _ => of_decide_eq_true (by kernel_rfl)⟩
theorem fn321 : FnOk Tryz.prog 321 Tryz.f321 := ⟨Tryz.func321, fun _ => of_decide_eq_true (by kernel_rfl)⟩
theorem fn322 : FnOk Tryz.prog 322 Tryz.f322 := ⟨Tryz.func322, fun _ => of_decide_eq_true (by kernel_rfl)⟩
theorem fn323 : FnOk Tryz.prog 323 Tryz.f323 := ⟨Tryz.func323, fun _ => of_decide_eq_true (by kernel_rfl)⟩
theorem fn324 : FnOk Tryz.prog 324 Tryz.f324 := ⟨Tryz.func324, fun _ => of_decide_eq_true (by kernel_rfl)⟩
theorem fn325 : FnOk Tryz.prog 325 Tryz.f325 := ⟨Tryz.func325, fun _ => of_decide_eq_true (by kernel_rfl)⟩
theorem fn326 : FnOk Tryz.prog 326 Tryz.f326 := ⟨Tryz.func326, fun _ => of_decide_eq_true (by kernel_rfl)⟩
theorem fn327 : FnOk Tryz.prog 327 Tryz.f327 := ⟨Tryz.func327, fun _ => of_decide_eq_true (by kernel_rfl)⟩
theorem fn328 : FnOk Tryz.prog 328 Tryz.f328 := ⟨Tryz.func328, fun _ => of_decide_eq_true (by kernel_rfl)⟩
theorem fn329 : FnOk Tryz.prog 329 Tryz.f329 := ⟨Tryz.func329, fun _ => of_decide_eq_true (by kernel_rfl)⟩
theorem fn330 : FnOk Tryz.prog 330 Tryz.f330 := ⟨Tryz.func330, fun _ => of_decide_eq_true (by kernel_rfl)⟩
theorem fn331 : FnOk Tryz.prog 331 Tryz.f331 := ⟨Tryz.func331, fun _ => of_decide_eq_true (by kernel_rfl)⟩
theorem fn332 : FnOk Tryz.prog 332 Tryz.f332 := ⟨Tryz.func332, fun _ => of_decide_eq_true (by kernel_rfl)⟩
theorem fn333 : FnOk Tryz.prog 333 Tryz.f333 := ⟨Tryz.func333, fun _ => of_decide_eq_true (by kernel_rfl)⟩
theorem fn334 : FnOk Tryz.prog 334 Tryz.f334 := ⟨Tryz.func334, fun _ => of_decide_eq_true (by kernel_rfl)⟩
theorem fn335 : FnOk Tryz.prog 335 Tryz.f335 := ⟨Tryz.func335, fun _ => of_decide_eq_true (by kernel_rfl)⟩
theorem fn336 : FnOk Tryz.prog 336 Tryz.f336 := ⟨Tryz.func336, fun _ => of_decide_eq_true (by kernel_rfl)⟩
theorem fn337 : FnOk Tryz.prog 337 Tryz.f337 := ⟨Tryz.func337, fun _ => of_decide_eq_true (by kernel_rfl)⟩
theorem fn338 : FnOk Tryz.prog 338 Tryz.f338 := ⟨Tryz.func338, fun _ => of_decide_eq_true (by kernel_rfl)⟩
theorem fn339 : FnOk Tryz.prog 339 Tryz.f339 := ⟨Tryz.func339, fun _ => of_decide_eq_true (by kernel_rfl)⟩
theorem fn340 : FnOk Tryz.prog 340 Tryz.f340 := ⟨Tryz.func340, fun _ => of_decide_eq_true (by kernel_rfl)⟩
theorem fn341 : FnOk Tryz.prog 341 Tryz.f341 := ⟨Tryz.func341, fun _ => of_decide_eq_true (by kernel_rfl)⟩
theorem fn342 : FnOk Tryz.prog 342 Tryz.f342 := ⟨Tryz.func342, fun _ => of_decide_eq_true (by kernel_rfl)⟩
theorem tyT_ok : T.All (TyOk Tryz.prog) tyT 1 0 := ⟨⟨⟨⟨⟨⟨trivial, trivial, ⟨trivial, ty95, trivial⟩⟩, trivial, ⟨⟨trivial, trivial, ⟨trivial, ty207, trivial⟩⟩, ty47, ⟨⟨⟨trivial, ty303, trivial⟩, trivial, trivial⟩, trivial, ⟨trivial, ty239, trivial⟩⟩⟩⟩, trivial, ⟨⟨⟨trivial, ty71, ⟨trivial, ty199, trivial⟩⟩, trivial, trivial⟩, ty23, ⟨⟨trivial, trivial, ⟨trivial, ty215, trivial⟩⟩, trivial, trivial⟩⟩⟩, ty3, ⟨⟨⟨⟨⟨trivial, trivial, ⟨trivial, ty387, trivial⟩⟩, trivial, trivial⟩, ty35, ⟨⟨⟨trivial, ty291, trivial⟩, trivial, trivial⟩, trivial, ⟨⟨trivial, ty355, trivial⟩, trivial, trivial⟩⟩⟩, trivial, ⟨⟨⟨trivial, ty147, trivial⟩, ty83, ⟨⟨trivial, ty339, trivial⟩, trivial, trivial⟩⟩, trivial, trivial⟩⟩, trivial, ⟨⟨⟨⟨⟨trivial, ty267, trivial⟩, trivial, trivial⟩, ty75, ⟨trivial, ty203, trivial⟩⟩, ty43, ⟨⟨trivial, ty171, trivial⟩, trivial, ⟨trivial, ty235, trivial⟩⟩⟩, ty27, ⟨⟨trivial, ty91, trivial⟩, ty59, ⟨trivial, ty123, trivial⟩⟩⟩⟩⟩, trivial, ⟨⟨⟨⟨trivial, ty33, trivial⟩, trivial, ⟨⟨⟨⟨trivial, ty273, trivial⟩, trivial, trivial⟩, ty81, ⟨trivial, ty209, trivial⟩⟩, ty49, ⟨trivial, ty113, trivial⟩⟩⟩, ty9, ⟨⟨⟨trivial, ty73, trivial⟩, trivial, ⟨⟨trivial, trivial, ⟨trivial, ty425, trivial⟩⟩, trivial, ⟨trivial, ty233, trivial⟩⟩⟩, ty25, ⟨⟨trivial, ty89, trivial⟩, ty57, ⟨trivial, ty121, trivial⟩⟩⟩⟩, ty5, ⟨⟨⟨⟨trivial, trivial, ⟨trivial, ty197, trivial⟩⟩, ty37, ⟨⟨⟨trivial, ty293, trivial⟩, trivial, trivial⟩, trivial, trivial⟩⟩, ty21, trivial⟩, trivial, ⟨⟨⟨⟨trivial, trivial, ⟨trivial, ty397, trivial⟩⟩, trivial, trivial⟩, ty45, ⟨⟨trivial, ty173, trivial⟩, ty109, ⟨trivial, ty237, trivial⟩⟩⟩, ty29, ⟨⟨⟨⟨trivial, ty285, trivial⟩, ty157, trivial⟩, ty93, ⟨⟨trivial, ty349, trivial⟩, trivial, trivial⟩⟩, trivial, trivial⟩⟩⟩⟩⟩, trivial, ⟨⟨⟨⟨⟨⟨⟨⟨trivial, ty256, trivial⟩, trivial, trivial⟩, trivial, ⟨⟨trivial, ty320, trivial⟩, trivial, trivial⟩⟩, ty32, ⟨⟨⟨trivial, ty288, trivial⟩, trivial, trivial⟩, trivial, trivial⟩⟩, trivial, ⟨trivial, trivial, ⟨⟨trivial, ty176, trivial⟩, ty112, trivial⟩⟩⟩, trivial, ⟨⟨⟨trivial, ty72, ⟨⟨trivial, ty328, trivial⟩, trivial, trivial⟩⟩, trivial, ⟨⟨trivial, ty168, trivial⟩, ty104, ⟨trivial, ty232, trivial⟩⟩⟩, trivial, ⟨⟨trivial, ty88, trivial⟩, trivial, trivial⟩⟩⟩, ty4, ⟨⟨⟨⟨⟨⟨trivial, ty260, trivial⟩, ty132, trivial⟩, trivial, ⟨trivial, ty196, trivial⟩⟩, trivial, trivial⟩, ty20, ⟨trivial, ty52, ⟨⟨trivial, ty180, trivial⟩, trivial, trivial⟩⟩⟩, trivial, ⟨⟨⟨trivial, trivial, ⟨⟨trivial, ty332, trivial⟩, ty204, trivial⟩⟩, trivial, ⟨⟨trivial, trivial, ⟨trivial, ty428, trivial⟩⟩, trivial, ⟨trivial, ty236, trivial⟩⟩⟩, trivial, ⟨trivial, trivial, ⟨⟨trivial, ty188, trivial⟩, trivial, trivial⟩⟩⟩⟩⟩, trivial, ⟨⟨⟨⟨⟨trivial, trivial, ⟨⟨trivial, ty322, trivial⟩, ty194, trivial⟩⟩, ty34, ⟨⟨⟨trivial, ty290, trivial⟩, trivial, trivial⟩, trivial, ⟨trivial, ty226, trivial⟩⟩⟩, trivial, ⟨⟨⟨trivial, ty146, trivial⟩, trivial, trivial⟩, trivial, trivial⟩⟩, trivial, ⟨⟨⟨⟨⟨trivial, ty266, trivial⟩, trivial, trivial⟩, trivial, ⟨⟨trivial, ty330, trivial⟩, ty202, trivial⟩⟩, trivial, ⟨⟨trivial, trivial, ⟨trivial, ty426, trivial⟩⟩, ty106, trivial⟩⟩, trivial, ⟨⟨⟨⟨trivial, ty282, trivial⟩, trivial, trivial⟩, trivial, ⟨⟨trivial, ty346, trivial⟩, trivial, trivial⟩⟩, trivial, ⟨trivial, trivial, ⟨trivial, ty250, trivial⟩⟩⟩⟩⟩, trivial, ⟨⟨⟨trivial, ty38, trivial⟩, ty22, ⟨⟨⟨⟨trivial, ty278, trivial⟩, ty150, trivial⟩, trivial, ⟨⟨trivial, ty342, trivial⟩, trivial, trivial⟩⟩, trivial, ⟨trivial, ty118, ⟨trivial, ty246, trivial⟩⟩⟩⟩, trivial, ⟨⟨⟨trivial, ty78, ⟨trivial, ty206, trivial⟩⟩, trivial, ⟨⟨trivial, ty174, trivial⟩, trivial, trivial⟩⟩, ty30, ⟨trivial, trivial, ⟨⟨trivial, ty190, trivial⟩, trivial, trivial⟩⟩⟩⟩⟩⟩⟩
theorem fnT_ok : T.All (FnOk Tryz.prog) fnT 1 0 := ⟨⟨⟨⟨⟨⟨⟨⟨⟨trivial, fn255, trivial⟩, fn127, trivial⟩, fn63, ⟨⟨trivial, fn319, trivial⟩, fn191, trivial⟩⟩, fn31, ⟨⟨⟨trivial, fn287, trivial⟩, fn159, trivial⟩, fn95, ⟨trivial, fn223, trivial⟩⟩⟩, fn15, ⟨⟨⟨⟨trivial, fn271, trivial⟩, fn143, trivial⟩, fn79, ⟨⟨trivial, fn335, trivial⟩, fn207, trivial⟩⟩, fn47, ⟨⟨⟨trivial, fn303, trivial⟩, fn175, trivial⟩, fn111, ⟨trivial, fn239, trivial⟩⟩⟩⟩, fn7, ⟨⟨⟨⟨⟨trivial, fn263, trivial⟩, fn135, trivial⟩, fn71, ⟨⟨trivial, fn327, trivial⟩, fn199, trivial⟩⟩, fn39, ⟨⟨⟨trivial, fn295, trivial⟩, fn167, trivial⟩, fn103, ⟨trivial, fn231, trivial⟩⟩⟩, fn23, ⟨⟨⟨⟨trivial, fn279, trivial⟩, fn151, trivial⟩, fn87, ⟨trivial, fn215, trivial⟩⟩, fn55, ⟨⟨⟨trivial, fn311, trivial⟩, fn183, trivial⟩, fn119, ⟨trivial, fn247, trivial⟩⟩⟩⟩⟩, fn3, ⟨⟨⟨⟨⟨⟨trivial, fn259, trivial⟩, fn131, trivial⟩, fn67, ⟨⟨trivial, fn323, trivial⟩, fn195, trivial⟩⟩, fn35, ⟨⟨⟨trivial, fn291, trivial⟩, fn163, trivial⟩, fn99, ⟨trivial, fn227, trivial⟩⟩⟩, fn19, ⟨⟨⟨⟨trivial, fn275, trivial⟩, fn147, trivial⟩, fn83, ⟨⟨trivial, fn339, trivial⟩, fn211, trivial⟩⟩, fn51, ⟨⟨⟨trivial, fn307, trivial⟩, fn179, trivial⟩, fn115, ⟨trivial, fn243, trivial⟩⟩⟩⟩, fn11, ⟨⟨⟨⟨⟨trivial, fn267, trivial⟩, fn139, trivial⟩, fn75, ⟨⟨trivial, fn331, trivial⟩, fn203, trivial⟩⟩, fn43, ⟨⟨⟨trivial, fn299, trivial⟩, fn171, trivial⟩, fn107, ⟨trivial, fn235, trivial⟩⟩⟩, fn27, ⟨⟨⟨⟨trivial, fn283, trivial⟩, fn155, trivial⟩, fn91, ⟨trivial, fn219, trivial⟩⟩, fn59, ⟨⟨⟨trivial, fn315, trivial⟩, fn187, trivial⟩, fn123, ⟨trivial, fn251, trivial⟩⟩⟩⟩⟩⟩, fn1, ⟨⟨⟨⟨⟨⟨⟨trivial, fn257, trivial⟩, fn129, trivial⟩, fn65, ⟨⟨trivial, fn321, trivial⟩, fn193, trivial⟩⟩, fn33, ⟨⟨⟨trivial, fn289, trivial⟩, fn161, trivial⟩, fn97, ⟨trivial, fn225, trivial⟩⟩⟩, fn17, ⟨⟨⟨⟨trivial, fn273, trivial⟩, fn145, trivial⟩, fn81, ⟨⟨trivial, fn337, trivial⟩, fn209, trivial⟩⟩, fn49, ⟨⟨⟨trivial, fn305, trivial⟩, fn177, trivial⟩, fn113, ⟨trivial, fn241, trivial⟩⟩⟩⟩, fn9, ⟨⟨⟨⟨⟨trivial, fn265, trivial⟩, fn137, trivial⟩, fn73, ⟨⟨trivial, fn329, trivial⟩, fn201, trivial⟩⟩, fn41, ⟨⟨⟨trivial, fn297, trivial⟩, fn169, trivial⟩, fn105, ⟨trivial, fn233, trivial⟩⟩⟩, fn25, ⟨⟨⟨⟨trivial, fn281, trivial⟩, fn153, trivial⟩, fn89, ⟨trivial, fn217, trivial⟩⟩, fn57, ⟨⟨⟨trivial, fn313, trivial⟩, fn185, trivial⟩, fn121, ⟨trivial, fn249, trivial⟩⟩⟩⟩⟩, fn5, ⟨⟨⟨⟨⟨⟨trivial, fn261, trivial⟩, fn133, trivial⟩, fn69, ⟨⟨trivial, fn325, trivial⟩, fn197, trivial⟩⟩, fn37, ⟨⟨⟨trivial, fn293, trivial⟩, fn165, trivial⟩, fn101, ⟨trivial, fn229, trivial⟩⟩⟩, fn21, ⟨⟨⟨⟨trivial, fn277, trivial⟩, fn149, trivial⟩, fn85, ⟨⟨trivial, fn341, trivial⟩, fn213, trivial⟩⟩, fn53, ⟨⟨⟨trivial, fn309, trivial⟩, fn181, trivial⟩, fn117, ⟨trivial, fn245, trivial⟩⟩⟩⟩, fn13, ⟨⟨⟨⟨⟨trivial, fn269, trivial⟩, fn141, trivial⟩, fn77, ⟨⟨trivial, fn333, trivial⟩, fn205, trivial⟩⟩, fn45, ⟨⟨⟨trivial, fn301, trivial⟩, fn173, trivial⟩, fn109, ⟨trivial, fn237, trivial⟩⟩⟩, fn29, ⟨⟨⟨⟨trivial, fn285, trivial⟩, fn157, trivial⟩, fn93, ⟨trivial, fn221, trivial⟩⟩, fn61, ⟨⟨⟨trivial, fn317, trivial⟩, fn189, trivial⟩, fn125, ⟨trivial, fn253, trivial⟩⟩⟩⟩⟩⟩⟩, fn0, ⟨⟨⟨⟨⟨⟨⟨⟨trivial, fn256, trivial⟩, fn128, trivial⟩, fn64, ⟨⟨trivial, fn320, trivial⟩, fn192, trivial⟩⟩, fn32, ⟨⟨⟨trivial, fn288, trivial⟩, fn160, trivial⟩, fn96, ⟨trivial, fn224, trivial⟩⟩⟩, fn16, ⟨⟨⟨⟨trivial, fn272, trivial⟩, fn144, trivial⟩, fn80, ⟨⟨trivial, fn336, trivial⟩, fn208, trivial⟩⟩, fn48, ⟨⟨⟨trivial, fn304, trivial⟩, fn176, trivial⟩, fn112, ⟨trivial, fn240, trivial⟩⟩⟩⟩, fn8, ⟨⟨⟨⟨⟨trivial, fn264, trivial⟩, fn136, trivial⟩, fn72, ⟨⟨trivial, fn328, trivial⟩, fn200, trivial⟩⟩, fn40, ⟨⟨⟨trivial, fn296, trivial⟩, fn168, trivial⟩, fn104, ⟨trivial, fn232, trivial⟩⟩⟩, fn24, ⟨⟨⟨⟨trivial, fn280, trivial⟩, fn152, trivial⟩, fn88, ⟨trivial, fn216, trivial⟩⟩, fn56, ⟨⟨⟨trivial, fn312, trivial⟩, fn184, trivial⟩, fn120, ⟨trivial, fn248, trivial⟩⟩⟩⟩⟩, fn4, ⟨⟨⟨⟨⟨⟨trivial, fn260, trivial⟩, fn132, trivial⟩, fn68, ⟨⟨trivial, fn324, trivial⟩, fn196, trivial⟩⟩, fn36, ⟨⟨⟨trivial, fn292, trivial⟩, fn164, trivial⟩, fn100, ⟨trivial, fn228, trivial⟩⟩⟩, fn20, ⟨⟨⟨⟨trivial, fn276, trivial⟩, fn148, trivial⟩, fn84, ⟨⟨trivial, fn340, trivial⟩, fn212, trivial⟩⟩, fn52, ⟨⟨⟨trivial, fn308, trivial⟩, fn180, trivial⟩, fn116, ⟨trivial, fn244, trivial⟩⟩⟩⟩, fn12, ⟨⟨⟨⟨⟨trivial, fn268, trivial⟩, fn140, trivial⟩, fn76, ⟨⟨trivial, fn332, trivial⟩, fn204, trivial⟩⟩, fn44, ⟨⟨⟨trivial, fn300, trivial⟩, fn172, trivial⟩, fn108, ⟨trivial, fn236, trivial⟩⟩⟩, fn28, ⟨⟨⟨⟨trivial, fn284, trivial⟩, fn156, trivial⟩, fn92, ⟨trivial, fn220, trivial⟩⟩, fn60, ⟨⟨⟨trivial, fn316, trivial⟩, fn188, trivial⟩, fn124, ⟨trivial, fn252, trivial⟩⟩⟩⟩⟩⟩, fn2, ⟨⟨⟨⟨⟨⟨⟨trivial, fn258, trivial⟩, fn130, trivial⟩, fn66, ⟨⟨trivial, fn322, trivial⟩, fn194, trivial⟩⟩, fn34, ⟨⟨⟨trivial, fn290, trivial⟩, fn162, trivial⟩, fn98, ⟨trivial, fn226, trivial⟩⟩⟩, fn18, ⟨⟨⟨⟨trivial, fn274, trivial⟩, fn146, trivial⟩, fn82, ⟨⟨trivial, fn338, trivial⟩, fn210, trivial⟩⟩, fn50, ⟨⟨⟨trivial, fn306, trivial⟩, fn178, trivial⟩, fn114, ⟨trivial, fn242, trivial⟩⟩⟩⟩, fn10, ⟨⟨⟨⟨⟨trivial, fn266, trivial⟩, fn138, trivial⟩, fn74, ⟨⟨trivial, fn330, trivial⟩, fn202, trivial⟩⟩, fn42, ⟨⟨⟨trivial, fn298, trivial⟩, fn170, trivial⟩, fn106, ⟨trivial, fn234, trivial⟩⟩⟩, fn26, ⟨⟨⟨⟨trivial, fn282, trivial⟩, fn154, trivial⟩, fn90, ⟨trivial, fn218, trivial⟩⟩, fn58, ⟨⟨⟨trivial, fn314, trivial⟩, fn186, trivial⟩, fn122, ⟨trivial, fn250, trivial⟩⟩⟩⟩⟩, fn6, ⟨⟨⟨⟨⟨⟨trivial, fn262, trivial⟩, fn134, trivial⟩, fn70, ⟨⟨trivial, fn326, trivial⟩, fn198, trivial⟩⟩, fn38, ⟨⟨⟨trivial, fn294, trivial⟩, fn166, trivial⟩, fn102, ⟨trivial, fn230, trivial⟩⟩⟩, fn22, ⟨⟨⟨⟨trivial, fn278, trivial⟩, fn150, trivial⟩, fn86, ⟨⟨trivial, fn342, trivial⟩, fn214, trivial⟩⟩, fn54, ⟨⟨⟨trivial, fn310, trivial⟩, fn182, trivial⟩, fn118, ⟨trivial, fn246, trivial⟩⟩⟩⟩, fn14, ⟨⟨⟨⟨⟨trivial, fn270, trivial⟩, fn142, trivial⟩, fn78, ⟨⟨trivial, fn334, trivial⟩, fn206, trivial⟩⟩, fn46, ⟨⟨⟨trivial, fn302, trivial⟩, fn174, trivial⟩, fn110, ⟨trivial, fn238, trivial⟩⟩⟩, fn30, ⟨⟨⟨⟨trivial, fn286, trivial⟩, fn158, trivial⟩, fn94, ⟨trivial, fn222, trivial⟩⟩, fn62, ⟨⟨⟨trivial, fn318, trivial⟩, fn190, trivial⟩, fn126, ⟨trivial, fn254, trivial⟩⟩⟩⟩⟩⟩⟩⟩
noncomputable def E : Env := { ty := tyT, fn := fnT, ext := T.set .leaf 321 1, rt := Tryz.prog.rt }
theorem E_ext : ∀ f n, E.ext.get f = some n → ∀ (args : List AV) (v : AV) (φ : Phi) (vs : Array Value) (w : World), extV n args = some v → VRels φ args vs.toList → ∃ x, (callFunc f vs).run Tryz.prog w = .ok (.value x) w ∧ VRel φ v x := by
  intro f n h
  rw [show E.ext = T.set .leaf 321 1 from rfl, T.get_set, T.get_leaf] at h
  split at h
  · rename_i hf
    cases h
    subst hf
    exact ext_place Tryz.func321 (by kernel_rfl) (by kernel_rfl) (by kernel_rfl) (by kernel_rfl)
  · cases h
theorem E_ok : E.Ok Tryz.prog := env_ok tyT_ok fnT_ok E_ext rfl (by kernel_rfl)
end Go.Proofs.YtbjagcfbjfgkmaaGreat
