/- Texts of this work, joined: Fp0. -/
import Derived.Test.YtpglfeeebnnkkaaDoorKE
/- Functions of the translation as predicates over heaps, and that their calls do so. Written by a program of this work. -/
namespace Go.Proofs.YtpglfeeebnnkkaaDoor.G
open Go.Gv
set_option linter.unusedVariables false
set_option maxRecDepth 100000
namespace gnomonlaw04_NumMirrors
noncomputable def C : Code := bodyOf Tryd.f3
def D5.t (R : Rt) (q7 : Addr) (q9 : Addr) (q13 : Addr) (h : Hp) : Prop :=
  ldK h (q7.add 0) fun v287 =>
  gBool v287 fun b_288 =>
  ldK h (q7.add 1) fun v289 =>
  gSlice v289 fun a_290 l_290 c_290 =>
  ldK h (q13.add 0) fun v291 =>
  gBool v291 fun b_292 =>
  ldK h (q13.add 1) fun v293 =>
  gSlice v293 fun a_294 l_294 c_294 =>
  HC num_FloorDiv.id #[.agg #[.bool b_288, .slice a_290 l_290 c_290], .agg #[.bool b_292, .slice a_294 l_294 c_294]] h fun v295 h296 =>
  gTup v295 fun y297 =>
  uncons y297 fun v298 y298 =>
  gAgg v298 fun y299 =>
  uncons y299 fun v300 y300 =>
  gBool v300 fun b_301 =>
  uncons y300 fun v302 y302 =>
  gSlice v302 fun a_303 l_303 c_303 =>
  unnil y302 <| uncons y298 fun v304 y304 =>
  gInt .i64 v304 fun x_305 =>
  unnil y304 <| boxK h296 24 T24.zs fun q306 h307 =>
  stK h307 (q306.add 0) (.bool b_301) fun h308 =>
  stK h308 (q306.add 1) (.slice a_303 l_303 c_303) fun h309 =>
  ldK h309 (q7.add 0) fun v310 =>
  gBool v310 fun b_311 =>
  ldK h309 (q7.add 1) fun v312 =>
  gSlice v312 fun a_313 l_313 c_313 =>
  ldK h309 (q9.add 0) fun v314 =>
  gBool v314 fun b_315 =>
  ldK h309 (q9.add 1) fun v316 =>
  gSlice v316 fun a_317 l_317 c_317 =>
  HC num_CeilDiv.id #[.agg #[.bool b_311, .slice a_313 l_313 c_313], .agg #[.bool b_315, .slice a_317 l_317 c_317]] h309 fun v318 h319 =>
  gTup v318 fun y320 =>
  uncons y320 fun v321 y321 =>
  gAgg v321 fun y322 =>
  uncons y322 fun v323 y323 =>
  gBool v323 fun b_324 =>
  uncons y323 fun v325 y325 =>
  gSlice v325 fun a_326 l_326 c_326 =>
  unnil y325 <| uncons y321 fun v327 y327 =>
  gInt .i64 v327 fun x_328 =>
  unnil y327 <| boxK h319 24 T24.zs fun q329 h330 =>
  stK h330 (q329.add 0) (.bool b_324) fun h331 =>
  stK h331 (q329.add 1) (.slice a_326 l_326 c_326) fun h332 =>
  ldK h332 (q329.add 0) fun v333 =>
  gBool v333 fun b_334 =>
  ldK h332 (q329.add 1) fun v335 =>
  gSlice v335 fun a_336 l_336 c_336 =>
  HC num_Neg.id #[.agg #[.bool b_334, .slice a_336 l_336 c_336]] h332 fun v337 h338 =>
  gTup v337 fun y339 =>
  uncons y339 fun v340 y340 =>
  gAgg v340 fun y341 =>
  uncons y341 fun v342 y342 =>
  gBool v342 fun b_343 =>
  uncons y342 fun v344 y344 =>
  gSlice v344 fun a_345 l_345 c_345 =>
  unnil y344 <| uncons y340 fun v346 y346 =>
  gInt .i64 v346 fun x_347 =>
  unnil y346 <| boxK h338 24 T24.zs fun q348 h349 =>
  stK h349 (q348.add 0) (.bool b_343) fun h350 =>
  stK h350 (q348.add 1) (.slice a_345 l_345 c_345) fun h351 =>
  ldK h351 (q9.add 0) fun v352 =>
  gBool v352 fun b_353 =>
  ldK h351 (q9.add 1) fun v354 =>
  gSlice v354 fun a_355 l_355 c_355 =>
  HC num_Sign.id #[.agg #[.bool b_353, .slice a_355 l_355 c_355]] h351 fun v356 h357 =>
  gInt .i64 v356 fun x_358 =>
  cond (x_358 == 0) (cond (x_305 == 4) (R (.bool (x_328 == 4)) h357) (R (.bool false) h357)) (cond (x_305 == 0) (cond (x_328 == 0) (cond (x_347 == 0) (ldK h357 (q306.add 0) fun v359 =>
  gBool v359 fun b_360 =>
  ldK h357 (q306.add 1) fun v361 =>
  gSlice v361 fun a_362 l_362 c_362 =>
  ldK h357 (q348.add 0) fun v363 =>
  gBool v363 fun b_364 =>
  ldK h357 (q348.add 1) fun v365 =>
  gSlice v365 fun a_366 l_366 c_366 =>
  HC gnomonlaw04_same.id #[.agg #[.bool b_360, .slice a_362 l_362 c_362], .agg #[.bool b_364, .slice a_366 l_366 c_366]] h357 fun v367 h368 =>
  gBool v367 fun b_369 =>
  R (.bool b_369) h368) (R (.bool false) h357)) (R (.bool false) h357)) (R (.bool false) h357))
def D5.g (R : Rt) (fr : Fr) (h : Hp) : Prop := gPtrS (fr 7) fun q7 => gPtrS (fr 9) fun q9 => gPtrS (fr 13) fun q13 => D5.t R q7 q9 q13 h
theorem D5.ok (R : Rt) (fr : Fr) (h : Hp) (g : D5.g R fr h) : den prog E (cAt C [true, true, true, true, true, true, true, true, true, true, true, true, true, true, true, true, true]) (retQ E [.tmp 6] R) fr h := by
  obtain ⟨q7, e7, g⟩ := gPtrS_elim g
  obtain ⟨q9, e9, g⟩ := gPtrS_elim g
  obtain ⟨q13, e13, g⟩ := gPtrS_elim g
  exact den_enter [(7, .pointer (some q7)), (9, .pointer (some q9)), (13, .pointer (some q13))] ⟨e7, e9, e13, trivial⟩ (by kernel_rfl) g
def D4.t (R : Rt) (x2 : Int) (q7 : Addr) (q9 : Addr) (q11 : Addr) (q13 : Addr) (h : Hp) : Prop :=
  cond (decide (x2 < 0)) (ldK h (q7.add 0) fun v132 =>
  gBool v132 fun b_133 =>
  ldK h (q7.add 1) fun v134 =>
  gSlice v134 fun a_135 l_135 c_135 =>
  HC num_FloorShr.id #[.agg #[.bool b_133, .slice a_135 l_135 c_135], .int .i64 x2] h fun v136 h137 =>
  gTup v136 fun y138 =>
  uncons y138 fun v139 y139 =>
  gAgg v139 fun y140 =>
  uncons y140 fun v141 y141 =>
  gBool v141 fun b_142 =>
  uncons y141 fun v143 y143 =>
  gSlice v143 fun a_144 l_144 c_144 =>
  unnil y143 <| uncons y139 fun v145 y145 =>
  gInt .i64 v145 fun x_146 =>
  unnil y145 <| boxK h137 24 T24.zs fun q147 h148 =>
  stK h148 (q147.add 0) (.bool b_142) fun h149 =>
  stK h149 (q147.add 1) (.slice a_144 l_144 c_144) fun h150 =>
  R (.bool (x_146 == 1)) h150) (ldK h (q11.add 0) fun v151 =>
  gBool v151 fun b_152 =>
  ldK h (q11.add 1) fun v153 =>
  gSlice v153 fun a_154 l_154 c_154 =>
  HC num_FloorShr.id #[.agg #[.bool b_152, .slice a_154 l_154 c_154], .int .i64 x2] h fun v155 h156 =>
  gTup v155 fun y157 =>
  uncons y157 fun v158 y158 =>
  gAgg v158 fun y159 =>
  uncons y159 fun v160 y160 =>
  gBool v160 fun b_161 =>
  uncons y160 fun v162 y162 =>
  gSlice v162 fun a_163 l_163 c_163 =>
  unnil y162 <| uncons y158 fun v164 y164 =>
  gInt .i64 v164 fun x_165 =>
  unnil y164 <| boxK h156 24 T24.zs fun q166 h167 =>
  stK h167 (q166.add 0) (.bool b_161) fun h168 =>
  stK h168 (q166.add 1) (.slice a_163 l_163 c_163) fun h169 =>
  ldK h169 (q7.add 0) fun v170 =>
  gBool v170 fun b_171 =>
  ldK h169 (q7.add 1) fun v172 =>
  gSlice v172 fun a_173 l_173 c_173 =>
  HC num_CeilShr.id #[.agg #[.bool b_171, .slice a_173 l_173 c_173], .int .i64 x2] h169 fun v174 h175 =>
  gTup v174 fun y176 =>
  uncons y176 fun v177 y177 =>
  gAgg v177 fun y178 =>
  uncons y178 fun v179 y179 =>
  gBool v179 fun b_180 =>
  uncons y179 fun v181 y181 =>
  gSlice v181 fun a_182 l_182 c_182 =>
  unnil y181 <| uncons y177 fun v183 y183 =>
  gInt .i64 v183 fun x_184 =>
  unnil y183 <| boxK h175 24 T24.zs fun q185 h186 =>
  stK h186 (q185.add 0) (.bool b_180) fun h187 =>
  stK h187 (q185.add 1) (.slice a_182 l_182 c_182) fun h188 =>
  ldK h188 (q11.add 0) fun v189 =>
  gBool v189 fun b_190 =>
  ldK h188 (q11.add 1) fun v191 =>
  gSlice v191 fun a_192 l_192 c_192 =>
  HC num_NearShr.id #[.agg #[.bool b_190, .slice a_192 l_192 c_192], .int .i64 x2] h188 fun v193 h194 =>
  gTup v193 fun y195 =>
  uncons y195 fun v196 y196 =>
  gAgg v196 fun y197 =>
  uncons y197 fun v198 y198 =>
  gBool v198 fun b_199 =>
  uncons y198 fun v200 y200 =>
  gSlice v200 fun a_201 l_201 c_201 =>
  unnil y200 <| uncons y196 fun v202 y202 =>
  gInt .i64 v202 fun x_203 =>
  unnil y202 <| boxK h194 24 T24.zs fun q204 h205 =>
  stK h205 (q204.add 0) (.bool b_199) fun h206 =>
  stK h206 (q204.add 1) (.slice a_201 l_201 c_201) fun h207 =>
  ldK h207 (q7.add 0) fun v208 =>
  gBool v208 fun b_209 =>
  ldK h207 (q7.add 1) fun v210 =>
  gSlice v210 fun a_211 l_211 c_211 =>
  HC num_NearShr.id #[.agg #[.bool b_209, .slice a_211 l_211 c_211], .int .i64 x2] h207 fun v212 h213 =>
  gTup v212 fun y214 =>
  uncons y214 fun v215 y215 =>
  gAgg v215 fun y216 =>
  uncons y216 fun v217 y217 =>
  gBool v217 fun b_218 =>
  uncons y217 fun v219 y219 =>
  gSlice v219 fun a_220 l_220 c_220 =>
  unnil y219 <| uncons y215 fun v221 y221 =>
  gInt .i64 v221 fun x_222 =>
  unnil y221 <| boxK h213 24 T24.zs fun q223 h224 =>
  stK h224 (q223.add 0) (.bool b_218) fun h225 =>
  stK h225 (q223.add 1) (.slice a_220 l_220 c_220) fun h226 =>
  ldK h226 (q185.add 0) fun v227 =>
  gBool v227 fun b_228 =>
  ldK h226 (q185.add 1) fun v229 =>
  gSlice v229 fun a_230 l_230 c_230 =>
  HC num_Neg.id #[.agg #[.bool b_228, .slice a_230 l_230 c_230]] h226 fun v231 h232 =>
  gTup v231 fun y233 =>
  uncons y233 fun v234 y234 =>
  gAgg v234 fun y235 =>
  uncons y235 fun v236 y236 =>
  gBool v236 fun b_237 =>
  uncons y236 fun v238 y238 =>
  gSlice v238 fun a_239 l_239 c_239 =>
  unnil y238 <| uncons y234 fun v240 y240 =>
  gInt .i64 v240 fun x_241 =>
  unnil y240 <| boxK h232 24 T24.zs fun q242 h243 =>
  stK h243 (q242.add 0) (.bool b_237) fun h244 =>
  stK h244 (q242.add 1) (.slice a_239 l_239 c_239) fun h245 =>
  ldK h245 (q223.add 0) fun v246 =>
  gBool v246 fun b_247 =>
  ldK h245 (q223.add 1) fun v248 =>
  gSlice v248 fun a_249 l_249 c_249 =>
  HC num_Neg.id #[.agg #[.bool b_247, .slice a_249 l_249 c_249]] h245 fun v250 h251 =>
  gTup v250 fun y252 =>
  uncons y252 fun v253 y253 =>
  gAgg v253 fun y254 =>
  uncons y254 fun v255 y255 =>
  gBool v255 fun b_256 =>
  uncons y255 fun v257 y257 =>
  gSlice v257 fun a_258 l_258 c_258 =>
  unnil y257 <| uncons y253 fun v259 y259 =>
  gInt .i64 v259 fun x_260 =>
  unnil y259 <| boxK h251 24 T24.zs fun q261 h262 =>
  stK h262 (q261.add 0) (.bool b_256) fun h263 =>
  stK h263 (q261.add 1) (.slice a_258 l_258 c_258) fun h264 =>
  cond (x_165 != 0) (R (.bool false) h264) (cond (x_184 != 0) (R (.bool false) h264) (cond (x_203 != 0) (R (.bool false) h264) (cond (x_222 != 0) (R (.bool false) h264) (cond (x_241 != 0) (R (.bool false) h264) (cond (x_260 != 0) (R (.bool false) h264) (ldK h264 (q166.add 0) fun v265 =>
  gBool v265 fun b_266 =>
  ldK h264 (q166.add 1) fun v267 =>
  gSlice v267 fun a_268 l_268 c_268 =>
  ldK h264 (q242.add 0) fun v269 =>
  gBool v269 fun b_270 =>
  ldK h264 (q242.add 1) fun v271 =>
  gSlice v271 fun a_272 l_272 c_272 =>
  HC gnomonlaw04_same.id #[.agg #[.bool b_266, .slice a_268 l_268 c_268], .agg #[.bool b_270, .slice a_272 l_272 c_272]] h264 fun v273 h274 =>
  gBool v273 fun b_275 =>
  cond (!b_275) (R (.bool false) h274) (ldK h274 (q204.add 0) fun v276 =>
  gBool v276 fun b_277 =>
  ldK h274 (q204.add 1) fun v278 =>
  gSlice v278 fun a_279 l_279 c_279 =>
  ldK h274 (q261.add 0) fun v280 =>
  gBool v280 fun b_281 =>
  ldK h274 (q261.add 1) fun v282 =>
  gSlice v282 fun a_283 l_283 c_283 =>
  HC gnomonlaw04_same.id #[.agg #[.bool b_277, .slice a_279 l_279 c_279], .agg #[.bool b_281, .slice a_283 l_283 c_283]] h274 fun v284 h285 =>
  gBool v284 fun b_286 =>
  cond (!b_286) (R (.bool false) h285) (D5.t R q7 q9 q13 h285)))))))))
def D4.g (R : Rt) (fr : Fr) (h : Hp) : Prop := gInt .i64 (fr 2) fun x2 => gPtrS (fr 7) fun q7 => gPtrS (fr 9) fun q9 => gPtrS (fr 11) fun q11 => gPtrS (fr 13) fun q13 => D4.t R x2 q7 q9 q11 q13 h
theorem D4.ok (R : Rt) (fr : Fr) (h : Hp) (g : D4.g R fr h) : den prog E (cAt C [true, true, true, true, true, true, true, true, true]) (retQ E [.tmp 6] R) fr h := by
  obtain ⟨x2, e2, g⟩ := gInt_elim g
  obtain ⟨q7, e7, g⟩ := gPtrS_elim g
  obtain ⟨q9, e9, g⟩ := gPtrS_elim g
  obtain ⟨q11, e11, g⟩ := gPtrS_elim g
  obtain ⟨q13, e13, g⟩ := gPtrS_elim g
  exact den_cut 8 (r := (cAt C [true, true, true, true, true, true, true, true, true, true, true, true, true, true, true, true, true])) (by kernel_rfl) (D5.ok R) (den_enter [(2, .int .i64 x2), (7, .pointer (some q7)), (9, .pointer (some q9)), (11, .pointer (some q11)), (13, .pointer (some q13))] ⟨e2, e7, e9, e11, e13, trivial⟩ (by kernel_rfl) g)
def D3.t (R : Rt) (x2 : Int) (q7 : Addr) (q9 : Addr) (h : Hp) : Prop :=
  ldK h (q7.add 0) fun v49 =>
  gBool v49 fun b_50 =>
  ldK h (q7.add 1) fun v51 =>
  gSlice v51 fun a_52 l_52 c_52 =>
  HC num_Neg.id #[.agg #[.bool b_50, .slice a_52 l_52 c_52]] h fun v53 h54 =>
  gTup v53 fun y55 =>
  uncons y55 fun v56 y56 =>
  gAgg v56 fun y57 =>
  uncons y57 fun v58 y58 =>
  gBool v58 fun b_59 =>
  uncons y58 fun v60 y60 =>
  gSlice v60 fun a_61 l_61 c_61 =>
  unnil y60 <| uncons y56 fun v62 y62 =>
  gInt .i64 v62 fun x_63 =>
  unnil y62 <| boxK h54 24 T24.zs fun q64 h65 =>
  stK h65 (q64.add 0) (.bool b_59) fun h66 =>
  stK h66 (q64.add 1) (.slice a_61 l_61 c_61) fun h67 =>
  ldK h67 (q9.add 0) fun v68 =>
  gBool v68 fun b_69 =>
  ldK h67 (q9.add 1) fun v70 =>
  gSlice v70 fun a_71 l_71 c_71 =>
  HC num_Neg.id #[.agg #[.bool b_69, .slice a_71 l_71 c_71]] h67 fun v72 h73 =>
  gTup v72 fun y74 =>
  uncons y74 fun v75 y75 =>
  gAgg v75 fun y76 =>
  uncons y76 fun v77 y77 =>
  gBool v77 fun b_78 =>
  uncons y77 fun v79 y79 =>
  gSlice v79 fun a_80 l_80 c_80 =>
  unnil y79 <| uncons y75 fun v81 y81 =>
  gInt .i64 v81 fun x_82 =>
  unnil y81 <| boxK h73 24 T24.zs fun q83 h84 =>
  stK h84 (q83.add 0) (.bool b_78) fun h85 =>
  stK h85 (q83.add 1) (.slice a_80 l_80 c_80) fun h86 =>
  ldK h86 (q64.add 0) fun v87 =>
  gBool v87 fun b_88 =>
  ldK h86 (q64.add 1) fun v89 =>
  gSlice v89 fun a_90 l_90 c_90 =>
  HC num_Neg.id #[.agg #[.bool b_88, .slice a_90 l_90 c_90]] h86 fun v91 h92 =>
  gTup v91 fun y93 =>
  uncons y93 fun v94 y94 =>
  gAgg v94 fun y95 =>
  uncons y95 fun v96 y96 =>
  gBool v96 fun b_97 =>
  uncons y96 fun v98 y98 =>
  gSlice v98 fun a_99 l_99 c_99 =>
  unnil y98 <| uncons y94 fun v100 y100 =>
  gInt .i64 v100 fun x_101 =>
  unnil y100 <| boxK h92 24 T24.zs fun q102 h103 =>
  stK h103 (q102.add 0) (.bool b_97) fun h104 =>
  stK h104 (q102.add 1) (.slice a_99 l_99 c_99) fun h105 =>
  cond (x_63 != 0) (R (.bool false) h105) (cond (x_82 != 0) (R (.bool false) h105) (cond (x_101 != 0) (R (.bool false) h105) (q102.block < h105.size ∧ ldK h105 (q102.add 0) fun v106 =>
  gBool v106 fun b_107 =>
  ldK h105 (q102.add 1) fun v108 =>
  gSlice v108 fun a_109 l_109 c_109 =>
  q7.block < h105.size ∧ ldK h105 (q7.add 0) fun v110 =>
  gBool v110 fun b_111 =>
  ldK h105 (q7.add 1) fun v112 =>
  gSlice v112 fun a_113 l_113 c_113 =>
  HC gnomonlaw04_same.id #[.agg #[.bool b_107, .slice a_109 l_109 c_109], .agg #[.bool b_111, .slice a_113 l_113 c_113]] h105 fun v114 h115 =>
  gBool v114 fun b_116 =>
  (Pre h105.size h105 h115) ∧ cond (!b_116) (R (.bool false) h115) (q64.block < h105.size ∧ ldK h115 (q64.add 0) fun v117 =>
  gBool v117 fun b_118 =>
  ldK h115 (q64.add 1) fun v119 =>
  gSlice v119 fun a_120 l_120 c_120 =>
  HC num_Sign.id #[.agg #[.bool b_118, .slice a_120 l_120 c_120]] h115 fun v121 h122 =>
  gInt .i64 v121 fun x_123 =>
  (Pre h105.size h115 h122) ∧ q7.block < h105.size ∧ ldK h122 (q7.add 0) fun v124 =>
  gBool v124 fun b_125 =>
  ldK h122 (q7.add 1) fun v126 =>
  gSlice v126 fun a_127 l_127 c_127 =>
  HC num_Sign.id #[.agg #[.bool b_125, .slice a_127 l_127 c_127]] h122 fun v128 h129 =>
  gInt .i64 v128 fun x_130 =>
  (Pre h105.size h122 h129) ∧ letK (IntKind.i64.wrap (0 - x_130)) fun n131 =>
  cond (x_123 != n131) (R (.bool false) h129) (D4.t R x2 q7 q9 q64 q83 h129)))))
def D3.g (R : Rt) (fr : Fr) (h : Hp) : Prop := gInt .i64 (fr 2) fun x2 => gPtrS (fr 7) fun q7 => gPtrS (fr 9) fun q9 => D3.t R x2 q7 q9 h
theorem D3.ok (R : Rt) (fr : Fr) (h : Hp) (g : D3.g R fr h) : den prog E (cAt C [true, true, true, true, true]) (retQ E [.tmp 6] R) fr h := by
  obtain ⟨x2, e2, g⟩ := gInt_elim g
  obtain ⟨q7, e7, g⟩ := gPtrS_elim g
  obtain ⟨q9, e9, g⟩ := gPtrS_elim g
  exact den_cut 4 (r := (cAt C [true, true, true, true, true, true, true, true, true])) (by kernel_rfl) (D4.ok R) (den_enter [(2, .int .i64 x2), (7, .pointer (some q7)), (9, .pointer (some q9))] ⟨e2, e7, e9, trivial⟩ (by kernel_rfl) g)
def D2.t (R : Rt) (x2 : Int) (q7 : Addr) (b8 : Bool) (q9 : Addr) (b10 : Bool) (h : Hp) : Prop :=
  cond (!b8) (R (.bool true) h) (cond (!b10) (R (.bool true) h) (D3.t R x2 q7 q9 h))
def D2.g (R : Rt) (fr : Fr) (h : Hp) : Prop := gInt .i64 (fr 2) fun x2 => gPtrS (fr 7) fun q7 => gBool (fr 8) fun b8 => gPtrS (fr 9) fun q9 => gBool (fr 10) fun b10 => D2.t R x2 q7 b8 q9 b10 h
theorem D2.ok (R : Rt) (fr : Fr) (h : Hp) (g : D2.g R fr h) : den prog E (cAt C [true, true, true, true]) (retQ E [.tmp 6] R) fr h := by
  obtain ⟨x2, e2, g⟩ := gInt_elim g
  obtain ⟨q7, e7, g⟩ := gPtrS_elim g
  obtain ⟨b8, e8, g⟩ := gBool_elim g
  obtain ⟨q9, e9, g⟩ := gPtrS_elim g
  obtain ⟨b10, e10, g⟩ := gBool_elim g
  exact den_cut 1 (r := (cAt C [true, true, true, true, true])) (by kernel_rfl) (D3.ok R) (den_enter [(2, .int .i64 x2), (7, .pointer (some q7)), (8, .bool b8), (9, .pointer (some q9)), (10, .bool b10)] ⟨e2, e7, e8, e9, e10, trivial⟩ (by kernel_rfl) g)
def D1.t (R : Rt) (b0_0 : Bool) (a0_1 : Option Addr) (l0_1 : Nat) (c0_1 : Nat) (b1_0 : Bool) (a1_1 : Option Addr) (l1_1 : Nat) (c1_1 : Nat) (x2 : Int) (h : Hp) : Prop :=
  boxK h 24 [.bool b0_0, .slice a0_1 l0_1 c0_1] fun q1 h2 =>
  boxK h2 24 [.bool b1_0, .slice a1_1 l1_1 c1_1] fun q3 h4 =>
  ldK h4 (q1.add 0) fun v5 =>
  gBool v5 fun b_6 =>
  ldK h4 (q1.add 1) fun v7 =>
  gSlice v7 fun a_8 l_8 c_8 =>
  HC gnomonlaw04_formed.id #[.agg #[.bool b_6, .slice a_8 l_8 c_8]] h4 fun v9 h10 =>
  gTup v9 fun y11 =>
  uncons y11 fun v12 y12 =>
  gAgg v12 fun y13 =>
  uncons y13 fun v14 y14 =>
  gBool v14 fun b_15 =>
  uncons y14 fun v16 y16 =>
  gSlice v16 fun a_17 l_17 c_17 =>
  unnil y16 <| uncons y12 fun v18 y18 =>
  gBool v18 fun b_19 =>
  unnil y18 <| boxK h10 24 T24.zs fun q20 h21 =>
  stK h21 (q20.add 0) (.bool b_15) fun h22 =>
  stK h22 (q20.add 1) (.slice a_17 l_17 c_17) fun h23 =>
  ldK h23 (q3.add 0) fun v24 =>
  gBool v24 fun b_25 =>
  ldK h23 (q3.add 1) fun v26 =>
  gSlice v26 fun a_27 l_27 c_27 =>
  HC gnomonlaw04_formed.id #[.agg #[.bool b_25, .slice a_27 l_27 c_27]] h23 fun v28 h29 =>
  gTup v28 fun y30 =>
  uncons y30 fun v31 y31 =>
  gAgg v31 fun y32 =>
  uncons y32 fun v33 y33 =>
  gBool v33 fun b_34 =>
  uncons y33 fun v35 y35 =>
  gSlice v35 fun a_36 l_36 c_36 =>
  unnil y35 <| uncons y31 fun v37 y37 =>
  gBool v37 fun b_38 =>
  unnil y37 <| boxK h29 24 T24.zs fun q39 h40 =>
  stK h40 (q39.add 0) (.bool b_34) fun h41 =>
  stK h41 (q39.add 1) (.slice a_36 l_36 c_36) fun h42 =>
  HC gnomonlaw04_awake.id #[] h42 fun v43 h44 =>
  gBool v43 fun b_45 =>
  cond (!b_45) (R (.bool false) h44) (HC gnomonlaw04_halves.id #[] h44 fun v46 h47 =>
  gBool v46 fun b_48 =>
  cond (!b_48) (R (.bool false) h47) (D2.t R x2 q20 b_19 q39 b_38 h47))
def D1.g (R : Rt) (fr : Fr) (h : Hp) : Prop := gAgg (fr 0) fun z0 => uncons z0 fun w0_0 z0_0 => gBool w0_0 fun b0_0 => uncons z0_0 fun w0_1 z0_1 => gSlice w0_1 fun a0_1 l0_1 c0_1 => unnil z0_1 <| gAgg (fr 1) fun z1 => uncons z1 fun w1_0 z1_0 => gBool w1_0 fun b1_0 => uncons z1_0 fun w1_1 z1_1 => gSlice w1_1 fun a1_1 l1_1 c1_1 => unnil z1_1 <| gInt .i64 (fr 2) fun x2 => D1.t R b0_0 a0_1 l0_1 c0_1 b1_0 a1_1 l1_1 c1_1 x2 h
theorem D1.ok (R : Rt) (fr : Fr) (h : Hp) (g : D1.g R fr h) : den prog E C (retQ E [.tmp 6] R) fr h := by
  obtain ⟨z0, e0, g0_0⟩ := gAgg_elim' g
  obtain ⟨w0_0, z0_0, rfl, g0_0x⟩ := uncons_elim g0_0
  obtain ⟨b0_0, rfl, g0_1⟩ := gBool_elim g0_0x
  obtain ⟨w0_1, z0_1, rfl, g0_1x⟩ := uncons_elim g0_1
  obtain ⟨a0_1, l0_1, c0_1, rfl, g0_2⟩ := gSlice_elim g0_1x
  obtain ⟨rfl, g⟩ := unnil_elim g0_2
  obtain ⟨z1, e1, g1_0⟩ := gAgg_elim' g
  obtain ⟨w1_0, z1_0, rfl, g1_0x⟩ := uncons_elim g1_0
  obtain ⟨b1_0, rfl, g1_1⟩ := gBool_elim g1_0x
  obtain ⟨w1_1, z1_1, rfl, g1_1x⟩ := uncons_elim g1_1
  obtain ⟨a1_1, l1_1, c1_1, rfl, g1_2⟩ := gSlice_elim g1_1x
  obtain ⟨rfl, g⟩ := unnil_elim g1_2
  obtain ⟨x2, e2, g⟩ := gInt_elim g
  exact den_cut 4 (r := (cAt C [true, true, true, true])) (by kernel_rfl) (D2.ok R) (den_enter [(0, .agg #[.bool b0_0, .slice a0_1 l0_1 c0_1]), (1, .agg #[.bool b1_0, .slice a1_1 l1_1 c1_1]), (2, .int .i64 x2)] ⟨e0, e1, e2, trivial⟩ (by kernel_rfl) g)
def t (b0_0 : Bool) (a0_1 : Option Addr) (l0_1 : Nat) (c0_1 : Nat) (b1_0 : Bool) (a1_1 : Option Addr) (l1_1 : Nat) (c1_1 : Nat) (x2 : Int) (h : Hp) (R : Rt) : Prop := D1.t R b0_0 a0_1 l0_1 c0_1 b1_0 a1_1 l1_1 c1_1 x2 h
theorem ok {b0_0 : Bool} {a0_1 : Option Addr} {l0_1 : Nat} {c0_1 : Nat} {b1_0 : Bool} {a1_1 : Option Addr} {l1_1 : Nat} {c1_1 : Nat} {x2 : Int} {h : Hp} {R : Rt} (g : t b0_0 a0_1 l0_1 c0_1 b1_0 a1_1 l1_1 c1_1 x2 h R) : HC id #[.agg #[.bool b0_0, .slice a0_1 l0_1 c0_1], .agg #[.bool b1_0, .slice a1_1 l1_1 c1_1], .int .i64 x2] h R :=
  calls_of_den' envOk (c := C) (rs := [.tmp 6]) Tryd.func3 (by kernel_rfl) (by kernel_rfl) (by kernel_rfl) (args := [.agg #[.bool b0_0, .slice a0_1 l0_1 c0_1], .agg #[.bool b1_0, .slice a1_1 l1_1 c1_1], .int .i64 x2]) (by kernel_rfl) (D1.ok R _ h (gAgg_intro rfl (uncons_intro (gBool_intro rfl (uncons_intro (gSlice_intro rfl (unnil_intro (gAgg_intro rfl (uncons_intro (gBool_intro rfl (uncons_intro (gSlice_intro rfl (unnil_intro (gInt_intro rfl (g)))))))))))))))
end gnomonlaw04_NumMirrors

namespace gnomonlaw04_NumSmalls
noncomputable def C : Code := bodyOf Tryd.f4
def D8.t (R : Rt) (x17 : Int) (x18 : Int) (x19 : Int) (x20 : Int) (h : Hp) : Prop :=
  cond (x17 == 0) (cond (x19 == 0) (R (.bool (x18 == x20)) h) (R (.bool false) h)) (R (.bool false) h)
def D8.g (R : Rt) (fr : Fr) (h : Hp) : Prop := gInt .i64 (fr 17) fun x17 => gInt .i64 (fr 18) fun x18 => gInt .i64 (fr 19) fun x19 => gInt .i64 (fr 20) fun x20 => D8.t R x17 x18 x19 x20 h
theorem D8.ok (R : Rt) (fr : Fr) (h : Hp) (g : D8.g R fr h) : den prog E (cAt C [true, true, true, true, true, true, true, true, true, true, true, true, true, true, true, true]) (retQ E [.tmp 4] R) fr h := by
  obtain ⟨x17, e17, g⟩ := gInt_elim g
  obtain ⟨x18, e18, g⟩ := gInt_elim g
  obtain ⟨x19, e19, g⟩ := gInt_elim g
  obtain ⟨x20, e20, g⟩ := gInt_elim g
  exact den_enter [(17, .int .i64 x17), (18, .int .i64 x18), (19, .int .i64 x19), (20, .int .i64 x20)] ⟨e17, e18, e19, e20, trivial⟩ (by kernel_rfl) g
def D7.t (R : Rt) (x0 : Int) (x1 : Int) (q5 : Addr) (q6 : Addr) (h : Hp) : Prop :=
  ldK h (q5.add 0) fun v112 =>
  gBool v112 fun b_113 =>
  ldK h (q5.add 1) fun v114 =>
  gSlice v114 fun a_115 l_115 c_115 =>
  ldK h (q6.add 0) fun v116 =>
  gBool v116 fun b_117 =>
  ldK h (q6.add 1) fun v118 =>
  gSlice v118 fun a_119 l_119 c_119 =>
  HC num_FloorDiv.id #[.agg #[.bool b_113, .slice a_115 l_115 c_115], .agg #[.bool b_117, .slice a_119 l_119 c_119]] h fun v120 h121 =>
  gTup v120 fun y122 =>
  uncons y122 fun v123 y123 =>
  gAgg v123 fun y124 =>
  uncons y124 fun v125 y125 =>
  gBool v125 fun b_126 =>
  uncons y125 fun v127 y127 =>
  gSlice v127 fun a_128 l_128 c_128 =>
  unnil y127 <| uncons y123 fun v129 y129 =>
  gInt .i64 v129 fun x_130 =>
  unnil y129 <| boxK h121 24 T24.zs fun q131 h132 =>
  stK h132 (q131.add 0) (.bool b_126) fun h133 =>
  stK h133 (q131.add 1) (.slice a_128 l_128 c_128) fun h134 =>
  ldK h134 (q131.add 0) fun v135 =>
  gBool v135 fun b_136 =>
  ldK h134 (q131.add 1) fun v137 =>
  gSlice v137 fun a_138 l_138 c_138 =>
  HC num_Small.id #[.agg #[.bool b_136, .slice a_138 l_138 c_138]] h134 fun v139 h140 =>
  gTup v139 fun y141 =>
  uncons y141 fun v142 y142 =>
  gInt .i64 v142 fun x_143 =>
  uncons y142 fun v144 y144 =>
  gInt .i64 v144 fun x_145 =>
  unnil y144 <| x1 ≠ 0 ∧ letK (IntKind.i64.wrap (Int.tdiv x0 x1)) fun n146 =>
  x1 ≠ 0 ∧ letK (Int.tmod x0 x1) fun n147 =>
  cond (n147 != 0) (cond (!((decide (x0 < 0)) == (decide (x1 < 0)))) (letK (IntKind.i64.wrap (n146 - 1)) fun n148 =>
  D8.t R x_130 x_143 x_145 n148 h140) (D8.t R x_130 x_143 x_145 n146 h140)) (D8.t R x_130 x_143 x_145 n146 h140)
def D7.g (R : Rt) (fr : Fr) (h : Hp) : Prop := gInt .i64 (fr 0) fun x0 => gInt .i64 (fr 1) fun x1 => gPtrS (fr 5) fun q5 => gPtrS (fr 6) fun q6 => D7.t R x0 x1 q5 q6 h
theorem D7.ok (R : Rt) (fr : Fr) (h : Hp) (g : D7.g R fr h) : den prog E (cAt C [true, true, true, true, true, true, true, true, true, true, true, true]) (retQ E [.tmp 4] R) fr h := by
  obtain ⟨x0, e0, g⟩ := gInt_elim g
  obtain ⟨x1, e1, g⟩ := gInt_elim g
  obtain ⟨q5, e5, g⟩ := gPtrS_elim g
  obtain ⟨q6, e6, g⟩ := gPtrS_elim g
  exact den_cut 4 (r := (cAt C [true, true, true, true, true, true, true, true, true, true, true, true, true, true, true, true])) (by kernel_rfl) (D8.ok R) (den_enter [(0, .int .i64 x0), (1, .int .i64 x1), (5, .pointer (some q5)), (6, .pointer (some q6))] ⟨e0, e1, e5, e6, trivial⟩ (by kernel_rfl) g)
def D6.t (R : Rt) (x0 : Int) (x1 : Int) (q5 : Addr) (q6 : Addr) (h : Hp) : Prop :=
  cond (x1 == 0) (R (.bool true) h) (cond (x0 == (-9223372036854775808)) (R (.bool true) h) (D7.t R x0 x1 q5 q6 h))
def D6.g (R : Rt) (fr : Fr) (h : Hp) : Prop := gInt .i64 (fr 0) fun x0 => gInt .i64 (fr 1) fun x1 => gPtrS (fr 5) fun q5 => gPtrS (fr 6) fun q6 => D6.t R x0 x1 q5 q6 h
theorem D6.ok (R : Rt) (fr : Fr) (h : Hp) (g : D6.g R fr h) : den prog E (cAt C [true, true, true, true, true, true, true, true, true, true, true]) (retQ E [.tmp 4] R) fr h := by
  obtain ⟨x0, e0, g⟩ := gInt_elim g
  obtain ⟨x1, e1, g⟩ := gInt_elim g
  obtain ⟨q5, e5, g⟩ := gPtrS_elim g
  obtain ⟨q6, e6, g⟩ := gPtrS_elim g
  exact den_cut 1 (r := (cAt C [true, true, true, true, true, true, true, true, true, true, true, true])) (by kernel_rfl) (D7.ok R) (den_enter [(0, .int .i64 x0), (1, .int .i64 x1), (5, .pointer (some q5)), (6, .pointer (some q6))] ⟨e0, e1, e5, e6, trivial⟩ (by kernel_rfl) g)
def D5.t (R : Rt) (x0 : Int) (x1 : Int) (q5 : Addr) (q6 : Addr) (x12 : Int) (x13 : Int) (x14 : Int) (b15 : Bool) (h : Hp) : Prop :=
  cond (x12 != 0) (R (.bool false) h) (cond (!(b15 == (x14 == 5))) (R (.bool false) h) (cond (!b15) (cond (x14 != 0) (R (.bool false) h) (letK (IntKind.i64.wrap (x0 + x1)) fun n111 =>
  cond (x13 != n111) (R (.bool false) h) (D6.t R x0 x1 q5 q6 h))) (D6.t R x0 x1 q5 q6 h)))
def D5.g (R : Rt) (fr : Fr) (h : Hp) : Prop := gInt .i64 (fr 0) fun x0 => gInt .i64 (fr 1) fun x1 => gPtrS (fr 5) fun q5 => gPtrS (fr 6) fun q6 => gInt .i64 (fr 12) fun x12 => gInt .i64 (fr 13) fun x13 => gInt .i64 (fr 14) fun x14 => gBool (fr 15) fun b15 => D5.t R x0 x1 q5 q6 x12 x13 x14 b15 h
theorem D5.ok (R : Rt) (fr : Fr) (h : Hp) (g : D5.g R fr h) : den prog E (cAt C [true, true, true, true, true, true, true, true, true, true]) (retQ E [.tmp 4] R) fr h := by
  obtain ⟨x0, e0, g⟩ := gInt_elim g
  obtain ⟨x1, e1, g⟩ := gInt_elim g
  obtain ⟨q5, e5, g⟩ := gPtrS_elim g
  obtain ⟨q6, e6, g⟩ := gPtrS_elim g
  obtain ⟨x12, e12, g⟩ := gInt_elim g
  obtain ⟨x13, e13, g⟩ := gInt_elim g
  obtain ⟨x14, e14, g⟩ := gInt_elim g
  obtain ⟨b15, e15, g⟩ := gBool_elim g
  exact den_cut 1 (r := (cAt C [true, true, true, true, true, true, true, true, true, true, true])) (by kernel_rfl) (D6.ok R) (den_enter [(0, .int .i64 x0), (1, .int .i64 x1), (5, .pointer (some q5)), (6, .pointer (some q6)), (12, .int .i64 x12), (13, .int .i64 x13), (14, .int .i64 x14), (15, .bool b15)] ⟨e0, e1, e5, e6, e12, e13, e14, e15, trivial⟩ (by kernel_rfl) g)
def D4.t (R : Rt) (x0 : Int) (x1 : Int) (q5 : Addr) (q6 : Addr) (h : Hp) : Prop :=
  ldK h (q5.add 0) fun v76 =>
  gBool v76 fun b_77 =>
  ldK h (q5.add 1) fun v78 =>
  gSlice v78 fun a_79 l_79 c_79 =>
  ldK h (q6.add 0) fun v80 =>
  gBool v80 fun b_81 =>
  ldK h (q6.add 1) fun v82 =>
  gSlice v82 fun a_83 l_83 c_83 =>
  HC num_Add.id #[.agg #[.bool b_77, .slice a_79 l_79 c_79], .agg #[.bool b_81, .slice a_83 l_83 c_83]] h fun v84 h85 =>
  gTup v84 fun y86 =>
  uncons y86 fun v87 y87 =>
  gAgg v87 fun y88 =>
  uncons y88 fun v89 y89 =>
  gBool v89 fun b_90 =>
  uncons y89 fun v91 y91 =>
  gSlice v91 fun a_92 l_92 c_92 =>
  unnil y91 <| uncons y87 fun v93 y93 =>
  gInt .i64 v93 fun x_94 =>
  unnil y93 <| boxK h85 24 T24.zs fun q95 h96 =>
  stK h96 (q95.add 0) (.bool b_90) fun h97 =>
  stK h97 (q95.add 1) (.slice a_92 l_92 c_92) fun h98 =>
  ldK h98 (q95.add 0) fun v99 =>
  gBool v99 fun b_100 =>
  ldK h98 (q95.add 1) fun v101 =>
  gSlice v101 fun a_102 l_102 c_102 =>
  HC num_Small.id #[.agg #[.bool b_100, .slice a_102 l_102 c_102]] h98 fun v103 h104 =>
  gTup v103 fun y105 =>
  uncons y105 fun v106 y106 =>
  gInt .i64 v106 fun x_107 =>
  uncons y106 fun v108 y108 =>
  gInt .i64 v108 fun x_109 =>
  unnil y108 <| cond (decide (x1 > 0)) (letK (IntKind.i64.wrap (9223372036854775807 - x1)) fun n110 =>
  cond (decide (x0 > n110)) (D5.t R x0 x1 q5 q6 x_94 x_107 x_109 true h104) (cond (decide (x1 < 0)) (letK (IntKind.i64.wrap ((-9223372036854775808) - x1)) fun n149 =>
  D5.t R x0 x1 q5 q6 x_94 x_107 x_109 (decide (x0 < n149)) h104) (D5.t R x0 x1 q5 q6 x_94 x_107 x_109 false h104))) (cond (decide (x1 < 0)) (letK (IntKind.i64.wrap ((-9223372036854775808) - x1)) fun n150 =>
  D5.t R x0 x1 q5 q6 x_94 x_107 x_109 (decide (x0 < n150)) h104) (D5.t R x0 x1 q5 q6 x_94 x_107 x_109 false h104))
def D4.g (R : Rt) (fr : Fr) (h : Hp) : Prop := gInt .i64 (fr 0) fun x0 => gInt .i64 (fr 1) fun x1 => gPtrS (fr 5) fun q5 => gPtrS (fr 6) fun q6 => D4.t R x0 x1 q5 q6 h
theorem D4.ok (R : Rt) (fr : Fr) (h : Hp) (g : D4.g R fr h) : den prog E (cAt C [true, true, true, true, true, true, true]) (retQ E [.tmp 4] R) fr h := by
  obtain ⟨x0, e0, g⟩ := gInt_elim g
  obtain ⟨x1, e1, g⟩ := gInt_elim g
  obtain ⟨q5, e5, g⟩ := gPtrS_elim g
  obtain ⟨q6, e6, g⟩ := gPtrS_elim g
  exact den_cut 3 (r := (cAt C [true, true, true, true, true, true, true, true, true, true])) (by kernel_rfl) (D5.ok R) (den_enter [(0, .int .i64 x0), (1, .int .i64 x1), (5, .pointer (some q5)), (6, .pointer (some q6))] ⟨e0, e1, e5, e6, trivial⟩ (by kernel_rfl) g)
def D3.t (R : Rt) (x0 : Int) (x1 : Int) (q5 : Addr) (q6 : Addr) (h : Hp) : Prop :=
  ldK h (q5.add 0) fun v61 =>
  gBool v61 fun b_62 =>
  ldK h (q5.add 1) fun v63 =>
  gSlice v63 fun a_64 l_64 c_64 =>
  ldK h (q6.add 0) fun v65 =>
  gBool v65 fun b_66 =>
  ldK h (q6.add 1) fun v67 =>
  gSlice v67 fun a_68 l_68 c_68 =>
  HC num_Cmp.id #[.agg #[.bool b_62, .slice a_64 l_64 c_64], .agg #[.bool b_66, .slice a_68 l_68 c_68]] h fun v69 h70 =>
  gTup v69 fun y71 =>
  uncons y71 fun v72 y72 =>
  gInt .i64 v72 fun x_73 =>
  uncons y72 fun v74 y74 =>
  gInt .i64 v74 fun x_75 =>
  unnil y74 <| cond (x_75 != 0) (R (.bool false) h70) (cond (!((decide (x_73 < 0)) == (decide (x0 < x1)))) (R (.bool false) h70) (cond (!((decide (x_73 > 0)) == (decide (x0 > x1)))) (R (.bool false) h70) (D4.t R x0 x1 q5 q6 h70)))
def D3.g (R : Rt) (fr : Fr) (h : Hp) : Prop := gInt .i64 (fr 0) fun x0 => gInt .i64 (fr 1) fun x1 => gPtrS (fr 5) fun q5 => gPtrS (fr 6) fun q6 => D3.t R x0 x1 q5 q6 h
theorem D3.ok (R : Rt) (fr : Fr) (h : Hp) (g : D3.g R fr h) : den prog E (cAt C [true, true, true, true, true]) (retQ E [.tmp 4] R) fr h := by
  obtain ⟨x0, e0, g⟩ := gInt_elim g
  obtain ⟨x1, e1, g⟩ := gInt_elim g
  obtain ⟨q5, e5, g⟩ := gPtrS_elim g
  obtain ⟨q6, e6, g⟩ := gPtrS_elim g
  exact den_cut 2 (r := (cAt C [true, true, true, true, true, true, true])) (by kernel_rfl) (D4.ok R) (den_enter [(0, .int .i64 x0), (1, .int .i64 x1), (5, .pointer (some q5)), (6, .pointer (some q6))] ⟨e0, e1, e5, e6, trivial⟩ (by kernel_rfl) g)
def D2.t (R : Rt) (x0 : Int) (x1 : Int) (h : Hp) : Prop :=
  HC num_Of.id #[.int .i64 x0] h fun v7 h8 =>
  gAgg v7 fun y9 =>
  uncons y9 fun v10 y10 =>
  gBool v10 fun b_11 =>
  uncons y10 fun v12 y12 =>
  gSlice v12 fun a_13 l_13 c_13 =>
  unnil y12 <| HC num_Of.id #[.int .i64 x1] h8 fun v14 h15 =>
  gAgg v14 fun y16 =>
  uncons y16 fun v17 y17 =>
  gBool v17 fun b_18 =>
  uncons y17 fun v19 y19 =>
  gSlice v19 fun a_20 l_20 c_20 =>
  unnil y19 <| boxK h15 24 T24.zs fun q21 h22 =>
  boxK h22 24 T24.zs fun q23 h24 =>
  stK h24 (q21.add 0) (.bool b_11) fun h25 =>
  stK h25 (q21.add 1) (.slice a_13 l_13 c_13) fun h26 =>
  stK h26 (q23.add 0) (.bool b_18) fun h27 =>
  stK h27 (q23.add 1) (.slice a_20 l_20 c_20) fun h28 =>
  ldK h28 (q21.add 0) fun v29 =>
  gBool v29 fun b_30 =>
  ldK h28 (q21.add 1) fun v31 =>
  gSlice v31 fun a_32 l_32 c_32 =>
  HC num_Small.id #[.agg #[.bool b_30, .slice a_32 l_32 c_32]] h28 fun v33 h34 =>
  gTup v33 fun y35 =>
  uncons y35 fun v36 y36 =>
  gInt .i64 v36 fun x_37 =>
  uncons y36 fun v38 y38 =>
  gInt .i64 v38 fun x_39 =>
  unnil y38 <| cond (x_39 != 0) (R (.bool false) h34) (cond (x_37 != x0) (R (.bool false) h34) (ldK h34 (q21.add 0) fun v40 =>
  gBool v40 fun b_41 =>
  ldK h34 (q21.add 1) fun v42 =>
  gSlice v42 fun a_43 l_43 c_43 =>
  HC num_Form.id #[.agg #[.bool b_41, .slice a_43 l_43 c_43]] h34 fun v44 h45 =>
  gBool v44 fun b_46 =>
  cond (!b_46) (R (.bool false) h45) (ldK h45 (q21.add 0) fun v47 =>
  gBool v47 fun b_48 =>
  ldK h45 (q21.add 1) fun v49 =>
  gSlice v49 fun a_50 l_50 c_50 =>
  HC num_Sign.id #[.agg #[.bool b_48, .slice a_50 l_50 c_50]] h45 fun v51 h52 =>
  gInt .i64 v51 fun x_53 =>
  cond (!((decide (x_53 < 0)) == (decide (x0 < 0)))) (R (.bool false) h52) (ldK h52 (q21.add 0) fun v54 =>
  gBool v54 fun b_55 =>
  ldK h52 (q21.add 1) fun v56 =>
  gSlice v56 fun a_57 l_57 c_57 =>
  HC num_Sign.id #[.agg #[.bool b_55, .slice a_57 l_57 c_57]] h52 fun v58 h59 =>
  gInt .i64 v58 fun x_60 =>
  cond (!((decide (x_60 > 0)) == (decide (x0 > 0)))) (R (.bool false) h59) (D3.t R x0 x1 q21 q23 h59)))))
def D2.g (R : Rt) (fr : Fr) (h : Hp) : Prop := gInt .i64 (fr 0) fun x0 => gInt .i64 (fr 1) fun x1 => D2.t R x0 x1 h
theorem D2.ok (R : Rt) (fr : Fr) (h : Hp) (g : D2.g R fr h) : den prog E (cAt C [true, true]) (retQ E [.tmp 4] R) fr h := by
  obtain ⟨x0, e0, g⟩ := gInt_elim g
  obtain ⟨x1, e1, g⟩ := gInt_elim g
  exact den_cut 3 (r := (cAt C [true, true, true, true, true])) (by kernel_rfl) (D3.ok R) (den_enter [(0, .int .i64 x0), (1, .int .i64 x1)] ⟨e0, e1, trivial⟩ (by kernel_rfl) g)
def D1.t (R : Rt) (x0 : Int) (x1 : Int) (h : Hp) : Prop :=
  HC gnomonlaw04_awake.id #[] h fun v1 h2 =>
  gBool v1 fun b_3 =>
  cond (!b_3) (R (.bool false) h2) (HC gnomonlaw04_halves.id #[] h2 fun v4 h5 =>
  gBool v4 fun b_6 =>
  cond (!b_6) (R (.bool false) h5) (D2.t R x0 x1 h5))
def D1.g (R : Rt) (fr : Fr) (h : Hp) : Prop := gInt .i64 (fr 0) fun x0 => gInt .i64 (fr 1) fun x1 => D1.t R x0 x1 h
theorem D1.ok (R : Rt) (fr : Fr) (h : Hp) (g : D1.g R fr h) : den prog E C (retQ E [.tmp 4] R) fr h := by
  obtain ⟨x0, e0, g⟩ := gInt_elim g
  obtain ⟨x1, e1, g⟩ := gInt_elim g
  exact den_cut 2 (r := (cAt C [true, true])) (by kernel_rfl) (D2.ok R) (den_enter [(0, .int .i64 x0), (1, .int .i64 x1)] ⟨e0, e1, trivial⟩ (by kernel_rfl) g)
def t (x0 : Int) (x1 : Int) (h : Hp) (R : Rt) : Prop := D1.t R x0 x1 h
theorem ok {x0 : Int} {x1 : Int} {h : Hp} {R : Rt} (g : t x0 x1 h R) : HC id #[.int .i64 x0, .int .i64 x1] h R :=
  calls_of_den' envOk (c := C) (rs := [.tmp 4]) Tryd.func4 (by kernel_rfl) (by kernel_rfl) (by kernel_rfl) (args := [.int .i64 x0, .int .i64 x1]) (by kernel_rfl) (D1.ok R _ h (gInt_intro rfl (gInt_intro rfl (g))))
end gnomonlaw04_NumSmalls

namespace gnomonlaw04_NumSteps
noncomputable def C : Code := bodyOf Tryd.f5
def D6.t (R : Rt) (x1 : Int) (x2 : Int) (q7 : Addr) (h : Hp) : Prop :=
  ldK h (q7.add 0) fun v258 =>
  gBool v258 fun b_259 =>
  ldK h (q7.add 1) fun v260 =>
  gSlice v260 fun a_261 l_261 c_261 =>
  HC num_FloorShr.id #[.agg #[.bool b_259, .slice a_261 l_261 c_261], .int .i64 x1] h fun v262 h263 =>
  gTup v262 fun y264 =>
  uncons y264 fun v265 y265 =>
  gAgg v265 fun y266 =>
  uncons y266 fun v267 y267 =>
  gBool v267 fun b_268 =>
  uncons y267 fun v269 y269 =>
  gSlice v269 fun a_270 l_270 c_270 =>
  unnil y269 <| uncons y265 fun v271 y271 =>
  gInt .i64 v271 fun x_272 =>
  unnil y271 <| boxK h263 24 T24.zs fun q273 h274 =>
  stK h274 (q273.add 0) (.bool b_268) fun h275 =>
  stK h275 (q273.add 1) (.slice a_270 l_270 c_270) fun h276 =>
  ldK h276 (q273.add 0) fun v277 =>
  gBool v277 fun b_278 =>
  ldK h276 (q273.add 1) fun v279 =>
  gSlice v279 fun a_280 l_280 c_280 =>
  HC num_FloorShr.id #[.agg #[.bool b_278, .slice a_280 l_280 c_280], .int .i64 x2] h276 fun v281 h282 =>
  gTup v281 fun y283 =>
  uncons y283 fun v284 y284 =>
  gAgg v284 fun y285 =>
  uncons y285 fun v286 y286 =>
  gBool v286 fun b_287 =>
  uncons y286 fun v288 y288 =>
  gSlice v288 fun a_289 l_289 c_289 =>
  unnil y288 <| uncons y284 fun v290 y290 =>
  gInt .i64 v290 fun x_291 =>
  unnil y290 <| boxK h282 24 T24.zs fun q292 h293 =>
  stK h293 (q292.add 0) (.bool b_287) fun h294 =>
  stK h294 (q292.add 1) (.slice a_289 l_289 c_289) fun h295 =>
  ldK h295 (q7.add 0) fun v296 =>
  gBool v296 fun b_297 =>
  ldK h295 (q7.add 1) fun v298 =>
  gSlice v298 fun a_299 l_299 c_299 =>
  letK (IntKind.i64.wrap (x1 + x2)) fun n300 =>
  HC num_FloorShr.id #[.agg #[.bool b_297, .slice a_299 l_299 c_299], .int .i64 n300] h295 fun v301 h302 =>
  gTup v301 fun y303 =>
  uncons y303 fun v304 y304 =>
  gAgg v304 fun y305 =>
  uncons y305 fun v306 y306 =>
  gBool v306 fun b_307 =>
  uncons y306 fun v308 y308 =>
  gSlice v308 fun a_309 l_309 c_309 =>
  unnil y308 <| uncons y304 fun v310 y310 =>
  gInt .i64 v310 fun x_311 =>
  unnil y310 <| boxK h302 24 T24.zs fun q312 h313 =>
  stK h313 (q312.add 0) (.bool b_307) fun h314 =>
  stK h314 (q312.add 1) (.slice a_309 l_309 c_309) fun h315 =>
  cond (x_272 == 0) (cond (x_291 == 0) (cond (x_311 == 0) (ldK h315 (q292.add 0) fun v316 =>
  gBool v316 fun b_317 =>
  ldK h315 (q292.add 1) fun v318 =>
  gSlice v318 fun a_319 l_319 c_319 =>
  ldK h315 (q312.add 0) fun v320 =>
  gBool v320 fun b_321 =>
  ldK h315 (q312.add 1) fun v322 =>
  gSlice v322 fun a_323 l_323 c_323 =>
  HC gnomonlaw04_same.id #[.agg #[.bool b_317, .slice a_319 l_319 c_319], .agg #[.bool b_321, .slice a_323 l_323 c_323]] h315 fun v324 h325 =>
  gBool v324 fun b_326 =>
  R (.bool b_326) h325) (R (.bool false) h315)) (R (.bool false) h315)) (R (.bool false) h315)
def D6.g (R : Rt) (fr : Fr) (h : Hp) : Prop := gInt .i64 (fr 1) fun x1 => gInt .i64 (fr 2) fun x2 => gPtrS (fr 7) fun q7 => D6.t R x1 x2 q7 h
theorem D6.ok (R : Rt) (fr : Fr) (h : Hp) (g : D6.g R fr h) : den prog E (cAt C [true, true, true, true, true, true, true, true, true]) (retQ E [.tmp 6] R) fr h := by
  obtain ⟨x1, e1, g⟩ := gInt_elim g
  obtain ⟨x2, e2, g⟩ := gInt_elim g
  obtain ⟨q7, e7, g⟩ := gPtrS_elim g
  exact den_enter [(1, .int .i64 x1), (2, .int .i64 x2), (7, .pointer (some q7))] ⟨e1, e2, e7, trivial⟩ (by kernel_rfl) g
def D5.t (R : Rt) (x1 : Int) (x2 : Int) (q7 : Addr) (h : Hp) : Prop :=
  cond (decide (x1 ≥ 4611686018427387904)) (R (.bool true) h) (cond (decide (x2 ≥ 4611686018427387904)) (R (.bool true) h) (D6.t R x1 x2 q7 h))
def D5.g (R : Rt) (fr : Fr) (h : Hp) : Prop := gInt .i64 (fr 1) fun x1 => gInt .i64 (fr 2) fun x2 => gPtrS (fr 7) fun q7 => D5.t R x1 x2 q7 h
theorem D5.ok (R : Rt) (fr : Fr) (h : Hp) (g : D5.g R fr h) : den prog E (cAt C [true, true, true, true, true, true, true, true]) (retQ E [.tmp 6] R) fr h := by
  obtain ⟨x1, e1, g⟩ := gInt_elim g
  obtain ⟨x2, e2, g⟩ := gInt_elim g
  obtain ⟨q7, e7, g⟩ := gPtrS_elim g
  exact den_cut 1 (r := (cAt C [true, true, true, true, true, true, true, true, true])) (by kernel_rfl) (D6.ok R) (den_enter [(1, .int .i64 x1), (2, .int .i64 x2), (7, .pointer (some q7))] ⟨e1, e2, e7, trivial⟩ (by kernel_rfl) g)
def D4.t (R : Rt) (x1 : Int) (x2 : Int) (q7 : Addr) (h : Hp) : Prop :=
  ldK h (q7.add 0) fun v209 =>
  gBool v209 fun b_210 =>
  ldK h (q7.add 1) fun v211 =>
  gSlice v211 fun a_212 l_212 c_212 =>
  HC num_Shl.id #[.agg #[.bool b_210, .slice a_212 l_212 c_212], .int .i64 x2] h fun v213 h214 =>
  gTup v213 fun y215 =>
  uncons y215 fun v216 y216 =>
  gAgg v216 fun y217 =>
  uncons y217 fun v218 y218 =>
  gBool v218 fun b_219 =>
  uncons y218 fun v220 y220 =>
  gSlice v220 fun a_221 l_221 c_221 =>
  unnil y220 <| uncons y216 fun v222 y222 =>
  gInt .i64 v222 fun x_223 =>
  unnil y222 <| boxK h214 24 T24.zs fun q224 h225 =>
  stK h225 (q224.add 0) (.bool b_219) fun h226 =>
  stK h226 (q224.add 1) (.slice a_221 l_221 c_221) fun h227 =>
  cond (x_223 == 0) (ldK h227 (q224.add 0) fun v228 =>
  gBool v228 fun b_229 =>
  ldK h227 (q224.add 1) fun v230 =>
  gSlice v230 fun a_231 l_231 c_231 =>
  HC num_NearShr.id #[.agg #[.bool b_229, .slice a_231 l_231 c_231], .int .i64 x2] h227 fun v232 h233 =>
  gTup v232 fun y234 =>
  uncons y234 fun v235 y235 =>
  gAgg v235 fun y236 =>
  uncons y236 fun v237 y237 =>
  gBool v237 fun b_238 =>
  uncons y237 fun v239 y239 =>
  gSlice v239 fun a_240 l_240 c_240 =>
  unnil y239 <| uncons y235 fun v241 y241 =>
  gInt .i64 v241 fun x_242 =>
  unnil y241 <| boxK h233 24 T24.zs fun q243 h244 =>
  stK h244 (q243.add 0) (.bool b_238) fun h245 =>
  stK h245 (q243.add 1) (.slice a_240 l_240 c_240) fun h246 =>
  cond (x_242 != 0) (R (.bool false) h246) (ldK h246 (q243.add 0) fun v247 =>
  gBool v247 fun b_248 =>
  ldK h246 (q243.add 1) fun v249 =>
  gSlice v249 fun a_250 l_250 c_250 =>
  ldK h246 (q7.add 0) fun v251 =>
  gBool v251 fun b_252 =>
  ldK h246 (q7.add 1) fun v253 =>
  gSlice v253 fun a_254 l_254 c_254 =>
  HC gnomonlaw04_same.id #[.agg #[.bool b_248, .slice a_250 l_250 c_250], .agg #[.bool b_252, .slice a_254 l_254 c_254]] h246 fun v255 h256 =>
  gBool v255 fun b_257 =>
  cond (!b_257) (R (.bool false) h256) (D5.t R x1 x2 q7 h256))) (D5.t R x1 x2 q7 h227)
def D4.g (R : Rt) (fr : Fr) (h : Hp) : Prop := gInt .i64 (fr 1) fun x1 => gInt .i64 (fr 2) fun x2 => gPtrS (fr 7) fun q7 => D4.t R x1 x2 q7 h
theorem D4.ok (R : Rt) (fr : Fr) (h : Hp) (g : D4.g R fr h) : den prog E (cAt C [true, true, true, true, true, true]) (retQ E [.tmp 6] R) fr h := by
  obtain ⟨x1, e1, g⟩ := gInt_elim g
  obtain ⟨x2, e2, g⟩ := gInt_elim g
  obtain ⟨q7, e7, g⟩ := gPtrS_elim g
  exact den_cut 2 (r := (cAt C [true, true, true, true, true, true, true, true])) (by kernel_rfl) (D5.ok R) (den_enter [(1, .int .i64 x1), (2, .int .i64 x2), (7, .pointer (some q7))] ⟨e1, e2, e7, trivial⟩ (by kernel_rfl) g)
def D3.t (R : Rt) (x1 : Int) (x2 : Int) (q7 : Addr) (h : Hp) : Prop :=
  HC num_Of.id #[.int .i64 1] h fun v28 h29 =>
  gAgg v28 fun y30 =>
  uncons y30 fun v31 y31 =>
  gBool v31 fun b_32 =>
  uncons y31 fun v33 y33 =>
  gSlice v33 fun a_34 l_34 c_34 =>
  unnil y33 <| HC num_Shl.id #[.agg #[.bool b_32, .slice a_34 l_34 c_34], .int .i64 x2] h29 fun v35 h36 =>
  gTup v35 fun y37 =>
  uncons y37 fun v38 y38 =>
  gAgg v38 fun y39 =>
  uncons y39 fun v40 y40 =>
  gBool v40 fun b_41 =>
  uncons y40 fun v42 y42 =>
  gSlice v42 fun a_43 l_43 c_43 =>
  unnil y42 <| uncons y38 fun v44 y44 =>
  gInt .i64 v44 fun x_45 =>
  unnil y44 <| boxK h36 24 T24.zs fun q46 h47 =>
  stK h47 (q46.add 0) (.bool b_41) fun h48 =>
  stK h48 (q46.add 1) (.slice a_43 l_43 c_43) fun h49 =>
  cond (x_45 == 0) (ldK h49 (q7.add 0) fun v50 =>
  gBool v50 fun b_51 =>
  ldK h49 (q7.add 1) fun v52 =>
  gSlice v52 fun a_53 l_53 c_53 =>
  HC num_FloorShr.id #[.agg #[.bool b_51, .slice a_53 l_53 c_53], .int .i64 x2] h49 fun v54 h55 =>
  gTup v54 fun y56 =>
  uncons y56 fun v57 y57 =>
  gAgg v57 fun y58 =>
  uncons y58 fun v59 y59 =>
  gBool v59 fun b_60 =>
  uncons y59 fun v61 y61 =>
  gSlice v61 fun a_62 l_62 c_62 =>
  unnil y61 <| uncons y57 fun v63 y63 =>
  gInt .i64 v63 fun x_64 =>
  unnil y63 <| boxK h55 24 T24.zs fun q65 h66 =>
  stK h66 (q65.add 0) (.bool b_60) fun h67 =>
  stK h67 (q65.add 1) (.slice a_62 l_62 c_62) fun h68 =>
  ldK h68 (q7.add 0) fun v69 =>
  gBool v69 fun b_70 =>
  ldK h68 (q7.add 1) fun v71 =>
  gSlice v71 fun a_72 l_72 c_72 =>
  ldK h68 (q46.add 0) fun v73 =>
  gBool v73 fun b_74 =>
  ldK h68 (q46.add 1) fun v75 =>
  gSlice v75 fun a_76 l_76 c_76 =>
  HC num_FloorDiv.id #[.agg #[.bool b_70, .slice a_72 l_72 c_72], .agg #[.bool b_74, .slice a_76 l_76 c_76]] h68 fun v77 h78 =>
  gTup v77 fun y79 =>
  uncons y79 fun v80 y80 =>
  gAgg v80 fun y81 =>
  uncons y81 fun v82 y82 =>
  gBool v82 fun b_83 =>
  uncons y82 fun v84 y84 =>
  gSlice v84 fun a_85 l_85 c_85 =>
  unnil y84 <| uncons y80 fun v86 y86 =>
  gInt .i64 v86 fun x_87 =>
  unnil y86 <| boxK h78 24 T24.zs fun q88 h89 =>
  stK h89 (q88.add 0) (.bool b_83) fun h90 =>
  stK h90 (q88.add 1) (.slice a_85 l_85 c_85) fun h91 =>
  ldK h91 (q7.add 0) fun v92 =>
  gBool v92 fun b_93 =>
  ldK h91 (q7.add 1) fun v94 =>
  gSlice v94 fun a_95 l_95 c_95 =>
  HC num_NearShr.id #[.agg #[.bool b_93, .slice a_95 l_95 c_95], .int .i64 x2] h91 fun v96 h97 =>
  gTup v96 fun y98 =>
  uncons y98 fun v99 y99 =>
  gAgg v99 fun y100 =>
  uncons y100 fun v101 y101 =>
  gBool v101 fun b_102 =>
  uncons y101 fun v103 y103 =>
  gSlice v103 fun a_104 l_104 c_104 =>
  unnil y103 <| uncons y99 fun v105 y105 =>
  gInt .i64 v105 fun x_106 =>
  unnil y105 <| boxK h97 24 T24.zs fun q107 h108 =>
  stK h108 (q107.add 0) (.bool b_102) fun h109 =>
  stK h109 (q107.add 1) (.slice a_104 l_104 c_104) fun h110 =>
  ldK h110 (q7.add 0) fun v111 =>
  gBool v111 fun b_112 =>
  ldK h110 (q7.add 1) fun v113 =>
  gSlice v113 fun a_114 l_114 c_114 =>
  ldK h110 (q46.add 0) fun v115 =>
  gBool v115 fun b_116 =>
  ldK h110 (q46.add 1) fun v117 =>
  gSlice v117 fun a_118 l_118 c_118 =>
  HC num_NearDiv.id #[.agg #[.bool b_112, .slice a_114 l_114 c_114], .agg #[.bool b_116, .slice a_118 l_118 c_118]] h110 fun v119 h120 =>
  gTup v119 fun y121 =>
  uncons y121 fun v122 y122 =>
  gAgg v122 fun y123 =>
  uncons y123 fun v124 y124 =>
  gBool v124 fun b_125 =>
  uncons y124 fun v126 y126 =>
  gSlice v126 fun a_127 l_127 c_127 =>
  unnil y126 <| uncons y122 fun v128 y128 =>
  gInt .i64 v128 fun x_129 =>
  unnil y128 <| boxK h120 24 T24.zs fun q130 h131 =>
  stK h131 (q130.add 0) (.bool b_125) fun h132 =>
  stK h132 (q130.add 1) (.slice a_127 l_127 c_127) fun h133 =>
  ldK h133 (q7.add 0) fun v134 =>
  gBool v134 fun b_135 =>
  ldK h133 (q7.add 1) fun v136 =>
  gSlice v136 fun a_137 l_137 c_137 =>
  HC num_CeilShr.id #[.agg #[.bool b_135, .slice a_137 l_137 c_137], .int .i64 x2] h133 fun v138 h139 =>
  gTup v138 fun y140 =>
  uncons y140 fun v141 y141 =>
  gAgg v141 fun y142 =>
  uncons y142 fun v143 y143 =>
  gBool v143 fun b_144 =>
  uncons y143 fun v145 y145 =>
  gSlice v145 fun a_146 l_146 c_146 =>
  unnil y145 <| uncons y141 fun v147 y147 =>
  gInt .i64 v147 fun x_148 =>
  unnil y147 <| boxK h139 24 T24.zs fun q149 h150 =>
  stK h150 (q149.add 0) (.bool b_144) fun h151 =>
  stK h151 (q149.add 1) (.slice a_146 l_146 c_146) fun h152 =>
  ldK h152 (q7.add 0) fun v153 =>
  gBool v153 fun b_154 =>
  ldK h152 (q7.add 1) fun v155 =>
  gSlice v155 fun a_156 l_156 c_156 =>
  ldK h152 (q46.add 0) fun v157 =>
  gBool v157 fun b_158 =>
  ldK h152 (q46.add 1) fun v159 =>
  gSlice v159 fun a_160 l_160 c_160 =>
  HC num_CeilDiv.id #[.agg #[.bool b_154, .slice a_156 l_156 c_156], .agg #[.bool b_158, .slice a_160 l_160 c_160]] h152 fun v161 h162 =>
  gTup v161 fun y163 =>
  uncons y163 fun v164 y164 =>
  gAgg v164 fun y165 =>
  uncons y165 fun v166 y166 =>
  gBool v166 fun b_167 =>
  uncons y166 fun v168 y168 =>
  gSlice v168 fun a_169 l_169 c_169 =>
  unnil y168 <| uncons y164 fun v170 y170 =>
  gInt .i64 v170 fun x_171 =>
  unnil y170 <| boxK h162 24 T24.zs fun q172 h173 =>
  stK h173 (q172.add 0) (.bool b_167) fun h174 =>
  stK h174 (q172.add 1) (.slice a_169 l_169 c_169) fun h175 =>
  cond (x_64 != 0) (R (.bool false) h175) (cond (x_87 != 0) (R (.bool false) h175) (cond (x_106 != 0) (R (.bool false) h175) (cond (x_129 != 0) (R (.bool false) h175) (cond (x_148 != 0) (R (.bool false) h175) (cond (x_171 != 0) (R (.bool false) h175) (ldK h175 (q65.add 0) fun v176 =>
  gBool v176 fun b_177 =>
  ldK h175 (q65.add 1) fun v178 =>
  gSlice v178 fun a_179 l_179 c_179 =>
  ldK h175 (q88.add 0) fun v180 =>
  gBool v180 fun b_181 =>
  ldK h175 (q88.add 1) fun v182 =>
  gSlice v182 fun a_183 l_183 c_183 =>
  HC gnomonlaw04_same.id #[.agg #[.bool b_177, .slice a_179 l_179 c_179], .agg #[.bool b_181, .slice a_183 l_183 c_183]] h175 fun v184 h185 =>
  gBool v184 fun b_186 =>
  cond (!b_186) (R (.bool false) h185) (ldK h185 (q107.add 0) fun v187 =>
  gBool v187 fun b_188 =>
  ldK h185 (q107.add 1) fun v189 =>
  gSlice v189 fun a_190 l_190 c_190 =>
  ldK h185 (q130.add 0) fun v191 =>
  gBool v191 fun b_192 =>
  ldK h185 (q130.add 1) fun v193 =>
  gSlice v193 fun a_194 l_194 c_194 =>
  HC gnomonlaw04_same.id #[.agg #[.bool b_188, .slice a_190 l_190 c_190], .agg #[.bool b_192, .slice a_194 l_194 c_194]] h185 fun v195 h196 =>
  gBool v195 fun b_197 =>
  cond (!b_197) (R (.bool false) h196) (ldK h196 (q149.add 0) fun v198 =>
  gBool v198 fun b_199 =>
  ldK h196 (q149.add 1) fun v200 =>
  gSlice v200 fun a_201 l_201 c_201 =>
  ldK h196 (q172.add 0) fun v202 =>
  gBool v202 fun b_203 =>
  ldK h196 (q172.add 1) fun v204 =>
  gSlice v204 fun a_205 l_205 c_205 =>
  HC gnomonlaw04_same.id #[.agg #[.bool b_199, .slice a_201 l_201 c_201], .agg #[.bool b_203, .slice a_205 l_205 c_205]] h196 fun v206 h207 =>
  gBool v206 fun b_208 =>
  cond (!b_208) (R (.bool false) h207) (D4.t R x1 x2 q7 h207)))))))))) (cond (x_45 != 5) (R (.bool false) h49) (cond (decide (x2 < 524288)) (R (.bool false) h49) (D4.t R x1 x2 q7 h49)))
def D3.g (R : Rt) (fr : Fr) (h : Hp) : Prop := gInt .i64 (fr 1) fun x1 => gInt .i64 (fr 2) fun x2 => gPtrS (fr 7) fun q7 => D3.t R x1 x2 q7 h
theorem D3.ok (R : Rt) (fr : Fr) (h : Hp) (g : D3.g R fr h) : den prog E (cAt C [true, true, true, true]) (retQ E [.tmp 6] R) fr h := by
  obtain ⟨x1, e1, g⟩ := gInt_elim g
  obtain ⟨x2, e2, g⟩ := gInt_elim g
  obtain ⟨q7, e7, g⟩ := gPtrS_elim g
  exact den_cut 2 (r := (cAt C [true, true, true, true, true, true])) (by kernel_rfl) (D4.ok R) (den_enter [(1, .int .i64 x1), (2, .int .i64 x2), (7, .pointer (some q7))] ⟨e1, e2, e7, trivial⟩ (by kernel_rfl) g)
def D2.t (R : Rt) (x1 : Int) (x2 : Int) (q7 : Addr) (b8 : Bool) (h : Hp) : Prop :=
  cond (!b8) (R (.bool true) h) (cond (decide (x1 < 0)) (R (.bool true) h) (cond (decide (x2 < 0)) (R (.bool true) h) (D3.t R x1 x2 q7 h)))
def D2.g (R : Rt) (fr : Fr) (h : Hp) : Prop := gInt .i64 (fr 1) fun x1 => gInt .i64 (fr 2) fun x2 => gPtrS (fr 7) fun q7 => gBool (fr 8) fun b8 => D2.t R x1 x2 q7 b8 h
theorem D2.ok (R : Rt) (fr : Fr) (h : Hp) (g : D2.g R fr h) : den prog E (cAt C [true, true, true]) (retQ E [.tmp 6] R) fr h := by
  obtain ⟨x1, e1, g⟩ := gInt_elim g
  obtain ⟨x2, e2, g⟩ := gInt_elim g
  obtain ⟨q7, e7, g⟩ := gPtrS_elim g
  obtain ⟨b8, e8, g⟩ := gBool_elim g
  exact den_cut 1 (r := (cAt C [true, true, true, true])) (by kernel_rfl) (D3.ok R) (den_enter [(1, .int .i64 x1), (2, .int .i64 x2), (7, .pointer (some q7)), (8, .bool b8)] ⟨e1, e2, e7, e8, trivial⟩ (by kernel_rfl) g)
def D1.t (R : Rt) (b0_0 : Bool) (a0_1 : Option Addr) (l0_1 : Nat) (c0_1 : Nat) (x1 : Int) (x2 : Int) (h : Hp) : Prop :=
  boxK h 24 [.bool b0_0, .slice a0_1 l0_1 c0_1] fun q1 h2 =>
  ldK h2 (q1.add 0) fun v3 =>
  gBool v3 fun b_4 =>
  ldK h2 (q1.add 1) fun v5 =>
  gSlice v5 fun a_6 l_6 c_6 =>
  HC gnomonlaw04_formed.id #[.agg #[.bool b_4, .slice a_6 l_6 c_6]] h2 fun v7 h8 =>
  gTup v7 fun y9 =>
  uncons y9 fun v10 y10 =>
  gAgg v10 fun y11 =>
  uncons y11 fun v12 y12 =>
  gBool v12 fun b_13 =>
  uncons y12 fun v14 y14 =>
  gSlice v14 fun a_15 l_15 c_15 =>
  unnil y14 <| uncons y10 fun v16 y16 =>
  gBool v16 fun b_17 =>
  unnil y16 <| boxK h8 24 T24.zs fun q18 h19 =>
  stK h19 (q18.add 0) (.bool b_13) fun h20 =>
  stK h20 (q18.add 1) (.slice a_15 l_15 c_15) fun h21 =>
  HC gnomonlaw04_awake.id #[] h21 fun v22 h23 =>
  gBool v22 fun b_24 =>
  cond (!b_24) (R (.bool false) h23) (HC gnomonlaw04_halves.id #[] h23 fun v25 h26 =>
  gBool v25 fun b_27 =>
  cond (!b_27) (R (.bool false) h26) (D2.t R x1 x2 q18 b_17 h26))
def D1.g (R : Rt) (fr : Fr) (h : Hp) : Prop := gAgg (fr 0) fun z0 => uncons z0 fun w0_0 z0_0 => gBool w0_0 fun b0_0 => uncons z0_0 fun w0_1 z0_1 => gSlice w0_1 fun a0_1 l0_1 c0_1 => unnil z0_1 <| gInt .i64 (fr 1) fun x1 => gInt .i64 (fr 2) fun x2 => D1.t R b0_0 a0_1 l0_1 c0_1 x1 x2 h
theorem D1.ok (R : Rt) (fr : Fr) (h : Hp) (g : D1.g R fr h) : den prog E C (retQ E [.tmp 6] R) fr h := by
  obtain ⟨z0, e0, g0_0⟩ := gAgg_elim' g
  obtain ⟨w0_0, z0_0, rfl, g0_0x⟩ := uncons_elim g0_0
  obtain ⟨b0_0, rfl, g0_1⟩ := gBool_elim g0_0x
  obtain ⟨w0_1, z0_1, rfl, g0_1x⟩ := uncons_elim g0_1
  obtain ⟨a0_1, l0_1, c0_1, rfl, g0_2⟩ := gSlice_elim g0_1x
  obtain ⟨rfl, g⟩ := unnil_elim g0_2
  obtain ⟨x1, e1, g⟩ := gInt_elim g
  obtain ⟨x2, e2, g⟩ := gInt_elim g
  exact den_cut 3 (r := (cAt C [true, true, true])) (by kernel_rfl) (D2.ok R) (den_enter [(0, .agg #[.bool b0_0, .slice a0_1 l0_1 c0_1]), (1, .int .i64 x1), (2, .int .i64 x2)] ⟨e0, e1, e2, trivial⟩ (by kernel_rfl) g)
def t (b0_0 : Bool) (a0_1 : Option Addr) (l0_1 : Nat) (c0_1 : Nat) (x1 : Int) (x2 : Int) (h : Hp) (R : Rt) : Prop := D1.t R b0_0 a0_1 l0_1 c0_1 x1 x2 h
theorem ok {b0_0 : Bool} {a0_1 : Option Addr} {l0_1 : Nat} {c0_1 : Nat} {x1 : Int} {x2 : Int} {h : Hp} {R : Rt} (g : t b0_0 a0_1 l0_1 c0_1 x1 x2 h R) : HC id #[.agg #[.bool b0_0, .slice a0_1 l0_1 c0_1], .int .i64 x1, .int .i64 x2] h R :=
  calls_of_den' envOk (c := C) (rs := [.tmp 6]) Tryd.func5 (by kernel_rfl) (by kernel_rfl) (by kernel_rfl) (args := [.agg #[.bool b0_0, .slice a0_1 l0_1 c0_1], .int .i64 x1, .int .i64 x2]) (by kernel_rfl) (D1.ok R _ h (gAgg_intro rfl (uncons_intro (gBool_intro rfl (uncons_intro (gSlice_intro rfl (unnil_intro (gInt_intro rfl (gInt_intro rfl (g))))))))))
end gnomonlaw04_NumSteps

namespace gnomonlaw04_NumNests
noncomputable def C : Code := bodyOf Tryd.f6
def D9.t (R : Rt) (x30 : Int) (x31 : Int) (x32 : Int) (x33 : Int) (b34 : Bool) (h : Hp) : Prop :=
  cond (x31 == 0) (cond (x33 == 0) (cond (decide (x30 ≤ 0)) (cond (x30 == 0) (cond (!b34) (R (.bool (decide (x32 < 0))) h) (R (.bool false) h)) (cond (!false) (R (.bool (decide (x32 < 0))) h) (R (.bool false) h))) (R (.bool false) h)) (R (.bool false) h)) (R (.bool false) h)
def D9.g (R : Rt) (fr : Fr) (h : Hp) : Prop := gInt .i64 (fr 30) fun x30 => gInt .i64 (fr 31) fun x31 => gInt .i64 (fr 32) fun x32 => gInt .i64 (fr 33) fun x33 => gBool (fr 34) fun b34 => D9.t R x30 x31 x32 x33 b34 h
theorem D9.ok (R : Rt) (fr : Fr) (h : Hp) (g : D9.g R fr h) : den prog E (cAt C [true, true, true, true, true, true, true, true, true, true, true, true, true, true, true, true, true, true, true, true, true, true, true, true, true, true, true]) (retQ E [.tmp 4] R) fr h := by
  obtain ⟨x30, e30, g⟩ := gInt_elim g
  obtain ⟨x31, e31, g⟩ := gInt_elim g
  obtain ⟨x32, e32, g⟩ := gInt_elim g
  obtain ⟨x33, e33, g⟩ := gInt_elim g
  obtain ⟨b34, e34, g⟩ := gBool_elim g
  exact den_enter [(30, .int .i64 x30), (31, .int .i64 x31), (32, .int .i64 x32), (33, .int .i64 x33), (34, .bool b34)] ⟨e30, e31, e32, e33, e34, trivial⟩ (by kernel_rfl) g
def D8.t (R : Rt) (q7 : Addr) (q13 : Addr) (q15 : Addr) (q27 : Addr) (h : Hp) : Prop :=
  stK h (q27.add 0) (.bool false) fun h380 =>
  ldK h380 (q7.add 1) fun v381 =>
  gSlice v381 fun a_382 l_382 c_382 =>
  boxK h380 24 T24.zs fun q383 h384 =>
  stK h384 (q383.add 0) (.bool false) fun h385 =>
  stK h385 (q383.add 1) (.slice a_382 l_382 c_382) fun h386 =>
  ldK h386 (q27.add 0) fun v387 =>
  gBool v387 fun b_388 =>
  ldK h386 (q27.add 1) fun v389 =>
  gSlice v389 fun a_390 l_390 c_390 =>
  ldK h386 (q383.add 0) fun v391 =>
  gBool v391 fun b_392 =>
  ldK h386 (q383.add 1) fun v393 =>
  gSlice v393 fun a_394 l_394 c_394 =>
  HC num_Cmp.id #[.agg #[.bool b_388, .slice a_390 l_390 c_390], .agg #[.bool b_392, .slice a_394 l_394 c_394]] h386 fun v395 h396 =>
  gTup v395 fun y397 =>
  uncons y397 fun v398 y398 =>
  gInt .i64 v398 fun x_399 =>
  uncons y398 fun v400 y400 =>
  gInt .i64 v400 fun x_401 =>
  unnil y400 <| ldK h396 (q15.add 1) fun v402 =>
  gSlice v402 fun a_403 l_403 c_403 =>
  ldK h396 (q383.add 0) fun v404 =>
  gBool v404 fun b_405 =>
  ldK h396 (q383.add 1) fun v406 =>
  gSlice v406 fun a_407 l_407 c_407 =>
  HC num_Cmp.id #[.agg #[.bool false, .slice a_403 l_403 c_403], .agg #[.bool b_405, .slice a_407 l_407 c_407]] h396 fun v408 h409 =>
  gTup v408 fun y410 =>
  uncons y410 fun v411 y411 =>
  gInt .i64 v411 fun x_412 =>
  uncons y411 fun v413 y413 =>
  gInt .i64 v413 fun x_414 =>
  unnil y413 <| ldK h409 (q13.add 1) fun v415 =>
  gSlice v415 fun a_416 l_416 c_416 =>
  cond (decide ((((l_416 : Nat) : Int)) > 0)) (ldK h409 (q13.add 1) fun v417 =>
  gSlice v417 fun a_418 l_418 c_418 =>
  idxK a_418 l_418 0 1 fun q419 =>
  ldK h409 q419 fun v420 =>
  gInt .u64 v420 fun x_421 =>
  (2 : Int) ≠ 0 ∧ letK (Int.tmod x_421 2) fun n422 =>
  D9.t R x_399 x_401 x_412 x_414 (n422 == 1) h409) (D9.t R x_399 x_401 x_412 x_414 false h409)
def D8.g (R : Rt) (fr : Fr) (h : Hp) : Prop := gPtrS (fr 7) fun q7 => gPtrS (fr 13) fun q13 => gPtrS (fr 15) fun q15 => gPtrS (fr 27) fun q27 => D8.t R q7 q13 q15 q27 h
theorem D8.ok (R : Rt) (fr : Fr) (h : Hp) (g : D8.g R fr h) : den prog E (cAt C [true, true, true, true, true, true, true, true, true, true, true, true, true, true, true, true, true, true, true, true, true, true]) (retQ E [.tmp 4] R) fr h := by
  obtain ⟨q7, e7, g⟩ := gPtrS_elim g
  obtain ⟨q13, e13, g⟩ := gPtrS_elim g
  obtain ⟨q15, e15, g⟩ := gPtrS_elim g
  obtain ⟨q27, e27, g⟩ := gPtrS_elim g
  exact den_cut 5 (r := (cAt C [true, true, true, true, true, true, true, true, true, true, true, true, true, true, true, true, true, true, true, true, true, true, true, true, true, true, true])) (by kernel_rfl) (D9.ok R) (den_enter [(7, .pointer (some q7)), (13, .pointer (some q13)), (15, .pointer (some q15)), (27, .pointer (some q27))] ⟨e7, e13, e15, e27, trivial⟩ (by kernel_rfl) g)
def D7.t (R : Rt) (q5 : Addr) (q7 : Addr) (q13 : Addr) (q15 : Addr) (h : Hp) : Prop :=
  ldK h (q13.add 0) fun v311 =>
  gBool v311 fun b_312 =>
  ldK h (q13.add 1) fun v313 =>
  gSlice v313 fun a_314 l_314 c_314 =>
  ldK h (q7.add 0) fun v315 =>
  gBool v315 fun b_316 =>
  ldK h (q7.add 1) fun v317 =>
  gSlice v317 fun a_318 l_318 c_318 =>
  HC num_Mul.id #[.agg #[.bool b_312, .slice a_314 l_314 c_314], .agg #[.bool b_316, .slice a_318 l_318 c_318]] h fun v319 h320 =>
  gTup v319 fun y321 =>
  uncons y321 fun v322 y322 =>
  gAgg v322 fun y323 =>
  uncons y323 fun v324 y324 =>
  gBool v324 fun b_325 =>
  uncons y324 fun v326 y326 =>
  gSlice v326 fun a_327 l_327 c_327 =>
  unnil y326 <| uncons y322 fun v328 y328 =>
  gInt .i64 v328 fun x_329 =>
  unnil y328 <| boxK h320 24 T24.zs fun q330 h331 =>
  stK h331 (q330.add 0) (.bool b_325) fun h332 =>
  stK h332 (q330.add 1) (.slice a_327 l_327 c_327) fun h333 =>
  cond (x_329 != 0) (cond (x_329 == 5) (ldK h333 (q5.add 1) fun v334 =>
  gSlice v334 fun a_335 l_335 c_335 =>
  ldK h333 (q7.add 1) fun v336 =>
  gSlice v336 fun a_337 l_337 c_337 =>
  R (.bool ((if (((l_337 : Nat) : Int)) > (((l_335 : Nat) : Int)) then (((l_337 : Nat) : Int)) else (((l_335 : Nat) : Int))) == 8192)) h333) (R (.bool false) h333)) (ldK h333 (q5.add 0) fun v338 =>
  gBool v338 fun b_339 =>
  ldK h333 (q5.add 1) fun v340 =>
  gSlice v340 fun a_341 l_341 c_341 =>
  ldK h333 (q330.add 0) fun v342 =>
  gBool v342 fun b_343 =>
  ldK h333 (q330.add 1) fun v344 =>
  gSlice v344 fun a_345 l_345 c_345 =>
  HC num_Sub.id #[.agg #[.bool b_339, .slice a_341 l_341 c_341], .agg #[.bool b_343, .slice a_345 l_345 c_345]] h333 fun v346 h347 =>
  gTup v346 fun y348 =>
  uncons y348 fun v349 y349 =>
  gAgg v349 fun y350 =>
  uncons y350 fun v351 y351 =>
  gBool v351 fun b_352 =>
  uncons y351 fun v353 y353 =>
  gSlice v353 fun a_354 l_354 c_354 =>
  unnil y353 <| uncons y349 fun v355 y355 =>
  gInt .i64 v355 fun x_356 =>
  unnil y355 <| boxK h347 24 T24.zs fun q357 h358 =>
  stK h358 (q357.add 0) (.bool b_352) fun h359 =>
  stK h359 (q357.add 1) (.slice a_354 l_354 c_354) fun h360 =>
  ldK h360 (q357.add 0) fun v361 =>
  gBool v361 fun b_362 =>
  ldK h360 (q357.add 1) fun v363 =>
  gSlice v363 fun a_364 l_364 c_364 =>
  HC num_Shl.id #[.agg #[.bool b_362, .slice a_364 l_364 c_364], .int .i64 1] h360 fun v365 h366 =>
  gTup v365 fun y367 =>
  uncons y367 fun v368 y368 =>
  gAgg v368 fun y369 =>
  uncons y369 fun v370 y370 =>
  gBool v370 fun b_371 =>
  uncons y370 fun v372 y372 =>
  gSlice v372 fun a_373 l_373 c_373 =>
  unnil y372 <| uncons y368 fun v374 y374 =>
  gInt .i64 v374 fun x_375 =>
  unnil y374 <| boxK h366 24 T24.zs fun q376 h377 =>
  stK h377 (q376.add 0) (.bool b_371) fun h378 =>
  stK h378 (q376.add 1) (.slice a_373 l_373 c_373) fun h379 =>
  cond (x_356 != 0) (R (.bool false) h379) (cond (x_375 != 0) (R (.bool false) h379) (D8.t R q7 q13 q15 q376 h379)))
def D7.g (R : Rt) (fr : Fr) (h : Hp) : Prop := gPtrS (fr 5) fun q5 => gPtrS (fr 7) fun q7 => gPtrS (fr 13) fun q13 => gPtrS (fr 15) fun q15 => D7.t R q5 q7 q13 q15 h
theorem D7.ok (R : Rt) (fr : Fr) (h : Hp) (g : D7.g R fr h) : den prog E (cAt C [true, true, true, true, true, true, true, true, true, true, true, true, true, true, true, true, true]) (retQ E [.tmp 4] R) fr h := by
  obtain ⟨q5, e5, g⟩ := gPtrS_elim g
  obtain ⟨q7, e7, g⟩ := gPtrS_elim g
  obtain ⟨q13, e13, g⟩ := gPtrS_elim g
  obtain ⟨q15, e15, g⟩ := gPtrS_elim g
  exact den_cut 5 (r := (cAt C [true, true, true, true, true, true, true, true, true, true, true, true, true, true, true, true, true, true, true, true, true, true])) (by kernel_rfl) (D8.ok R) (den_enter [(5, .pointer (some q5)), (7, .pointer (some q7)), (13, .pointer (some q13)), (15, .pointer (some q15))] ⟨e5, e7, e13, e15, trivial⟩ (by kernel_rfl) g)
def D6.t (R : Rt) (q5 : Addr) (q7 : Addr) (q9 : Addr) (q11 : Addr) (q13 : Addr) (q15 : Addr) (h : Hp) : Prop :=
  ldK h (q13.add 0) fun v289 =>
  gBool v289 fun b_290 =>
  ldK h (q13.add 1) fun v291 =>
  gSlice v291 fun a_292 l_292 c_292 =>
  ldK h (q9.add 0) fun v293 =>
  gBool v293 fun b_294 =>
  ldK h (q9.add 1) fun v295 =>
  gSlice v295 fun a_296 l_296 c_296 =>
  HC gnomonlaw04_same.id #[.agg #[.bool b_290, .slice a_292 l_292 c_292], .agg #[.bool b_294, .slice a_296 l_296 c_296]] h fun v297 h298 =>
  gBool v297 fun b_299 =>
  cond (!b_299) (ldK h298 (q13.add 0) fun v300 =>
  gBool v300 fun b_301 =>
  ldK h298 (q13.add 1) fun v302 =>
  gSlice v302 fun a_303 l_303 c_303 =>
  ldK h298 (q11.add 0) fun v304 =>
  gBool v304 fun b_305 =>
  ldK h298 (q11.add 1) fun v306 =>
  gSlice v306 fun a_307 l_307 c_307 =>
  HC gnomonlaw04_same.id #[.agg #[.bool b_301, .slice a_303 l_303 c_303], .agg #[.bool b_305, .slice a_307 l_307 c_307]] h298 fun v308 h309 =>
  gBool v308 fun b_310 =>
  cond (!b_310) (R (.bool false) h309) (D7.t R q5 q7 q13 q15 h309)) (D7.t R q5 q7 q13 q15 h298)
def D6.g (R : Rt) (fr : Fr) (h : Hp) : Prop := gPtrS (fr 5) fun q5 => gPtrS (fr 7) fun q7 => gPtrS (fr 9) fun q9 => gPtrS (fr 11) fun q11 => gPtrS (fr 13) fun q13 => gPtrS (fr 15) fun q15 => D6.t R q5 q7 q9 q11 q13 q15 h
theorem D6.ok (R : Rt) (fr : Fr) (h : Hp) (g : D6.g R fr h) : den prog E (cAt C [true, true, true, true, true, true, true, true, true, true, true, true, true, true, true, true]) (retQ E [.tmp 4] R) fr h := by
  obtain ⟨q5, e5, g⟩ := gPtrS_elim g
  obtain ⟨q7, e7, g⟩ := gPtrS_elim g
  obtain ⟨q9, e9, g⟩ := gPtrS_elim g
  obtain ⟨q11, e11, g⟩ := gPtrS_elim g
  obtain ⟨q13, e13, g⟩ := gPtrS_elim g
  obtain ⟨q15, e15, g⟩ := gPtrS_elim g
  exact den_cut 1 (r := (cAt C [true, true, true, true, true, true, true, true, true, true, true, true, true, true, true, true, true])) (by kernel_rfl) (D7.ok R) (den_enter [(5, .pointer (some q5)), (7, .pointer (some q7)), (9, .pointer (some q9)), (11, .pointer (some q11)), (13, .pointer (some q13)), (15, .pointer (some q15))] ⟨e5, e7, e9, e11, e13, e15, trivial⟩ (by kernel_rfl) g)
def D5.t (R : Rt) (q5 : Addr) (q7 : Addr) (q9 : Addr) (q11 : Addr) (q13 : Addr) (q15 : Addr) (h : Hp) : Prop :=
  ldK h (q11.add 0) fun v224 =>
  gBool v224 fun b_225 =>
  ldK h (q11.add 1) fun v226 =>
  gSlice v226 fun a_227 l_227 c_227 =>
  ldK h (q9.add 0) fun v228 =>
  gBool v228 fun b_229 =>
  ldK h (q9.add 1) fun v230 =>
  gSlice v230 fun a_231 l_231 c_231 =>
  HC num_Sub.id #[.agg #[.bool b_225, .slice a_227 l_227 c_227], .agg #[.bool b_229, .slice a_231 l_231 c_231]] h fun v232 h233 =>
  gTup v232 fun y234 =>
  uncons y234 fun v235 y235 =>
  gAgg v235 fun y236 =>
  uncons y236 fun v237 y237 =>
  gBool v237 fun b_238 =>
  uncons y237 fun v239 y239 =>
  gSlice v239 fun a_240 l_240 c_240 =>
  unnil y239 <| uncons y235 fun v241 y241 =>
  gInt .i64 v241 fun x_242 =>
  unnil y241 <| boxK h233 24 T24.zs fun q243 h244 =>
  stK h244 (q243.add 0) (.bool b_238) fun h245 =>
  stK h245 (q243.add 1) (.slice a_240 l_240 c_240) fun h246 =>
  cond (x_242 != 0) (R (.bool false) h246) (q243.block < h246.size ∧ ldK h246 (q243.add 0) fun v247 =>
  gBool v247 fun b_248 =>
  ldK h246 (q243.add 1) fun v249 =>
  gSlice v249 fun a_250 l_250 c_250 =>
  HC gnomonref04_DocOf.id #[.int .i64 0] h246 fun v251 h252 =>
  gAgg v251 fun y253 =>
  uncons y253 fun v254 y254 =>
  gBool v254 fun b_255 =>
  uncons y254 fun v256 y256 =>
  gSlice v256 fun a_257 l_257 c_257 =>
  unnil y256 <| (Pre h246.size h246 h252) ∧ HC gnomonlaw04_same.id #[.agg #[.bool b_248, .slice a_250 l_250 c_250], .agg #[.bool b_255, .slice a_257 l_257 c_257]] h252 fun v258 h259 =>
  gBool v258 fun b_260 =>
  (Pre h246.size h252 h259) ∧ q15.block < h246.size ∧ ldK h259 (q15.add 0) fun v261 =>
  gBool v261 fun b_262 =>
  ldK h259 (q15.add 1) fun v263 =>
  gSlice v263 fun a_264 l_264 c_264 =>
  HC num_Sign.id #[.agg #[.bool b_262, .slice a_264 l_264 c_264]] h259 fun v265 h266 =>
  gInt .i64 v265 fun x_267 =>
  (Pre h246.size h259 h266) ∧ cond (!(b_260 == (x_267 == 0))) (R (.bool false) h266) (q243.block < h246.size ∧ ldK h266 (q243.add 0) fun v268 =>
  gBool v268 fun b_269 =>
  ldK h266 (q243.add 1) fun v270 =>
  gSlice v270 fun a_271 l_271 c_271 =>
  HC gnomonref04_DocOf.id #[.int .i64 1] h266 fun v272 h273 =>
  gAgg v272 fun y274 =>
  uncons y274 fun v275 y275 =>
  gBool v275 fun b_276 =>
  uncons y275 fun v277 y277 =>
  gSlice v277 fun a_278 l_278 c_278 =>
  unnil y277 <| (Pre h246.size h266 h273) ∧ HC gnomonlaw04_same.id #[.agg #[.bool b_269, .slice a_271 l_271 c_271], .agg #[.bool b_276, .slice a_278 l_278 c_278]] h273 fun v279 h280 =>
  gBool v279 fun b_281 =>
  (Pre h246.size h273 h280) ∧ q15.block < h246.size ∧ ldK h280 (q15.add 0) fun v282 =>
  gBool v282 fun b_283 =>
  ldK h280 (q15.add 1) fun v284 =>
  gSlice v284 fun a_285 l_285 c_285 =>
  HC num_Sign.id #[.agg #[.bool b_283, .slice a_285 l_285 c_285]] h280 fun v286 h287 =>
  gInt .i64 v286 fun x_288 =>
  (Pre h246.size h280 h287) ∧ cond (!(b_281 == (x_288 != 0))) (R (.bool false) h287) (D6.t R q5 q7 q9 q11 q13 q15 h287)))
def D5.g (R : Rt) (fr : Fr) (h : Hp) : Prop := gPtrS (fr 5) fun q5 => gPtrS (fr 7) fun q7 => gPtrS (fr 9) fun q9 => gPtrS (fr 11) fun q11 => gPtrS (fr 13) fun q13 => gPtrS (fr 15) fun q15 => D5.t R q5 q7 q9 q11 q13 q15 h
theorem D5.ok (R : Rt) (fr : Fr) (h : Hp) (g : D5.g R fr h) : den prog E (cAt C [true, true, true, true, true, true, true, true, true, true, true, true, true, true]) (retQ E [.tmp 4] R) fr h := by
  obtain ⟨q5, e5, g⟩ := gPtrS_elim g
  obtain ⟨q7, e7, g⟩ := gPtrS_elim g
  obtain ⟨q9, e9, g⟩ := gPtrS_elim g
  obtain ⟨q11, e11, g⟩ := gPtrS_elim g
  obtain ⟨q13, e13, g⟩ := gPtrS_elim g
  obtain ⟨q15, e15, g⟩ := gPtrS_elim g
  exact den_cut 2 (r := (cAt C [true, true, true, true, true, true, true, true, true, true, true, true, true, true, true, true])) (by kernel_rfl) (D6.ok R) (den_enter [(5, .pointer (some q5)), (7, .pointer (some q7)), (9, .pointer (some q9)), (11, .pointer (some q11)), (13, .pointer (some q13)), (15, .pointer (some q15))] ⟨e5, e7, e9, e11, e13, e15, trivial⟩ (by kernel_rfl) g)
def D4.t (R : Rt) (q5 : Addr) (q7 : Addr) (q9 : Addr) (q11 : Addr) (q13 : Addr) (q15 : Addr) (h : Hp) : Prop :=
  ldK h (q9.add 0) fun v148 =>
  gBool v148 fun b_149 =>
  ldK h (q9.add 1) fun v150 =>
  gSlice v150 fun a_151 l_151 c_151 =>
  ldK h (q7.add 0) fun v152 =>
  gBool v152 fun b_153 =>
  ldK h (q7.add 1) fun v154 =>
  gSlice v154 fun a_155 l_155 c_155 =>
  HC num_Mul.id #[.agg #[.bool b_149, .slice a_151 l_151 c_151], .agg #[.bool b_153, .slice a_155 l_155 c_155]] h fun v156 h157 =>
  gTup v156 fun y158 =>
  uncons y158 fun v159 y159 =>
  gAgg v159 fun y160 =>
  uncons y160 fun v161 y161 =>
  gBool v161 fun b_162 =>
  uncons y161 fun v163 y163 =>
  gSlice v163 fun a_164 l_164 c_164 =>
  unnil y163 <| uncons y159 fun v165 y165 =>
  gInt .i64 v165 fun x_166 =>
  unnil y165 <| boxK h157 24 T24.zs fun q167 h168 =>
  stK h168 (q167.add 0) (.bool b_162) fun h169 =>
  stK h169 (q167.add 1) (.slice a_164 l_164 c_164) fun h170 =>
  cond (x_166 != 0) (cond (x_166 == 5) (ldK h170 (q5.add 1) fun v171 =>
  gSlice v171 fun a_172 l_172 c_172 =>
  ldK h170 (q7.add 1) fun v173 =>
  gSlice v173 fun a_174 l_174 c_174 =>
  R (.bool ((if (((l_174 : Nat) : Int)) > (((l_172 : Nat) : Int)) then (((l_174 : Nat) : Int)) else (((l_172 : Nat) : Int))) == 8192)) h170) (R (.bool false) h170)) (ldK h170 (q167.add 0) fun v175 =>
  gBool v175 fun b_176 =>
  ldK h170 (q167.add 1) fun v177 =>
  gSlice v177 fun a_178 l_178 c_178 =>
  ldK h170 (q15.add 0) fun v179 =>
  gBool v179 fun b_180 =>
  ldK h170 (q15.add 1) fun v181 =>
  gSlice v181 fun a_182 l_182 c_182 =>
  HC num_Add.id #[.agg #[.bool b_176, .slice a_178 l_178 c_178], .agg #[.bool b_180, .slice a_182 l_182 c_182]] h170 fun v183 h184 =>
  gTup v183 fun y185 =>
  uncons y185 fun v186 y186 =>
  gAgg v186 fun y187 =>
  uncons y187 fun v188 y188 =>
  gBool v188 fun b_189 =>
  uncons y188 fun v190 y190 =>
  gSlice v190 fun a_191 l_191 c_191 =>
  unnil y190 <| uncons y186 fun v192 y192 =>
  gInt .i64 v192 fun x_193 =>
  unnil y192 <| boxK h184 24 T24.zs fun q194 h195 =>
  stK h195 (q194.add 0) (.bool b_189) fun h196 =>
  stK h196 (q194.add 1) (.slice a_191 l_191 c_191) fun h197 =>
  cond (x_193 != 0) (R (.bool false) h197) (q194.block < h197.size ∧ ldK h197 (q194.add 0) fun v198 =>
  gBool v198 fun b_199 =>
  ldK h197 (q194.add 1) fun v200 =>
  gSlice v200 fun a_201 l_201 c_201 =>
  q5.block < h197.size ∧ ldK h197 (q5.add 0) fun v202 =>
  gBool v202 fun b_203 =>
  ldK h197 (q5.add 1) fun v204 =>
  gSlice v204 fun a_205 l_205 c_205 =>
  HC gnomonlaw04_same.id #[.agg #[.bool b_199, .slice a_201 l_201 c_201], .agg #[.bool b_203, .slice a_205 l_205 c_205]] h197 fun v206 h207 =>
  gBool v206 fun b_208 =>
  (Pre h197.size h197 h207) ∧ cond (!b_208) (R (.bool false) h207) (q15.block < h197.size ∧ ldK h207 (q15.add 0) fun v209 =>
  gBool v209 fun b_210 =>
  ldK h207 (q15.add 1) fun v211 =>
  gSlice v211 fun a_212 l_212 c_212 =>
  HC num_Sign.id #[.agg #[.bool b_210, .slice a_212 l_212 c_212]] h207 fun v213 h214 =>
  gInt .i64 v213 fun x_215 =>
  (Pre h197.size h207 h214) ∧ q7.block < h197.size ∧ ldK h214 (q7.add 0) fun v216 =>
  gBool v216 fun b_217 =>
  ldK h214 (q7.add 1) fun v218 =>
  gSlice v218 fun a_219 l_219 c_219 =>
  HC num_Sign.id #[.agg #[.bool b_217, .slice a_219 l_219 c_219]] h214 fun v220 h221 =>
  gInt .i64 v220 fun x_222 =>
  (Pre h197.size h214 h221) ∧ letK (IntKind.i64.wrap (0 - x_222)) fun n223 =>
  cond (x_215 == n223) (R (.bool false) h221) (D5.t R q5 q7 q9 q11 q13 q15 h221))))
def D4.g (R : Rt) (fr : Fr) (h : Hp) : Prop := gPtrS (fr 5) fun q5 => gPtrS (fr 7) fun q7 => gPtrS (fr 9) fun q9 => gPtrS (fr 11) fun q11 => gPtrS (fr 13) fun q13 => gPtrS (fr 15) fun q15 => D4.t R q5 q7 q9 q11 q13 q15 h
theorem D4.ok (R : Rt) (fr : Fr) (h : Hp) (g : D4.g R fr h) : den prog E (cAt C [true, true, true, true, true, true, true, true, true, true]) (retQ E [.tmp 4] R) fr h := by
  obtain ⟨q5, e5, g⟩ := gPtrS_elim g
  obtain ⟨q7, e7, g⟩ := gPtrS_elim g
  obtain ⟨q9, e9, g⟩ := gPtrS_elim g
  obtain ⟨q11, e11, g⟩ := gPtrS_elim g
  obtain ⟨q13, e13, g⟩ := gPtrS_elim g
  obtain ⟨q15, e15, g⟩ := gPtrS_elim g
  exact den_cut 4 (r := (cAt C [true, true, true, true, true, true, true, true, true, true, true, true, true, true])) (by kernel_rfl) (D5.ok R) (den_enter [(5, .pointer (some q5)), (7, .pointer (some q7)), (9, .pointer (some q9)), (11, .pointer (some q11)), (13, .pointer (some q13)), (15, .pointer (some q15))] ⟨e5, e7, e9, e11, e13, e15, trivial⟩ (by kernel_rfl) g)
def D3.t (R : Rt) (q5 : Addr) (q7 : Addr) (h : Hp) : Prop :=
  ldK h (q5.add 0) fun v56 =>
  gBool v56 fun b_57 =>
  ldK h (q5.add 1) fun v58 =>
  gSlice v58 fun a_59 l_59 c_59 =>
  ldK h (q7.add 0) fun v60 =>
  gBool v60 fun b_61 =>
  ldK h (q7.add 1) fun v62 =>
  gSlice v62 fun a_63 l_63 c_63 =>
  HC num_FloorDiv.id #[.agg #[.bool b_57, .slice a_59 l_59 c_59], .agg #[.bool b_61, .slice a_63 l_63 c_63]] h fun v64 h65 =>
  gTup v64 fun y66 =>
  uncons y66 fun v67 y67 =>
  gAgg v67 fun y68 =>
  uncons y68 fun v69 y69 =>
  gBool v69 fun b_70 =>
  uncons y69 fun v71 y71 =>
  gSlice v71 fun a_72 l_72 c_72 =>
  unnil y71 <| uncons y67 fun v73 y73 =>
  gInt .i64 v73 fun x_74 =>
  unnil y73 <| boxK h65 24 T24.zs fun q75 h76 =>
  stK h76 (q75.add 0) (.bool b_70) fun h77 =>
  stK h77 (q75.add 1) (.slice a_72 l_72 c_72) fun h78 =>
  ldK h78 (q5.add 0) fun v79 =>
  gBool v79 fun b_80 =>
  ldK h78 (q5.add 1) fun v81 =>
  gSlice v81 fun a_82 l_82 c_82 =>
  ldK h78 (q7.add 0) fun v83 =>
  gBool v83 fun b_84 =>
  ldK h78 (q7.add 1) fun v85 =>
  gSlice v85 fun a_86 l_86 c_86 =>
  HC num_CeilDiv.id #[.agg #[.bool b_80, .slice a_82 l_82 c_82], .agg #[.bool b_84, .slice a_86 l_86 c_86]] h78 fun v87 h88 =>
  gTup v87 fun y89 =>
  uncons y89 fun v90 y90 =>
  gAgg v90 fun y91 =>
  uncons y91 fun v92 y92 =>
  gBool v92 fun b_93 =>
  uncons y92 fun v94 y94 =>
  gSlice v94 fun a_95 l_95 c_95 =>
  unnil y94 <| uncons y90 fun v96 y96 =>
  gInt .i64 v96 fun x_97 =>
  unnil y96 <| boxK h88 24 T24.zs fun q98 h99 =>
  stK h99 (q98.add 0) (.bool b_93) fun h100 =>
  stK h100 (q98.add 1) (.slice a_95 l_95 c_95) fun h101 =>
  ldK h101 (q5.add 0) fun v102 =>
  gBool v102 fun b_103 =>
  ldK h101 (q5.add 1) fun v104 =>
  gSlice v104 fun a_105 l_105 c_105 =>
  ldK h101 (q7.add 0) fun v106 =>
  gBool v106 fun b_107 =>
  ldK h101 (q7.add 1) fun v108 =>
  gSlice v108 fun a_109 l_109 c_109 =>
  HC num_NearDiv.id #[.agg #[.bool b_103, .slice a_105 l_105 c_105], .agg #[.bool b_107, .slice a_109 l_109 c_109]] h101 fun v110 h111 =>
  gTup v110 fun y112 =>
  uncons y112 fun v113 y113 =>
  gAgg v113 fun y114 =>
  uncons y114 fun v115 y115 =>
  gBool v115 fun b_116 =>
  uncons y115 fun v117 y117 =>
  gSlice v117 fun a_118 l_118 c_118 =>
  unnil y117 <| uncons y113 fun v119 y119 =>
  gInt .i64 v119 fun x_120 =>
  unnil y119 <| boxK h111 24 T24.zs fun q121 h122 =>
  stK h122 (q121.add 0) (.bool b_116) fun h123 =>
  stK h123 (q121.add 1) (.slice a_118 l_118 c_118) fun h124 =>
  ldK h124 (q5.add 0) fun v125 =>
  gBool v125 fun b_126 =>
  ldK h124 (q5.add 1) fun v127 =>
  gSlice v127 fun a_128 l_128 c_128 =>
  ldK h124 (q7.add 0) fun v129 =>
  gBool v129 fun b_130 =>
  ldK h124 (q7.add 1) fun v131 =>
  gSlice v131 fun a_132 l_132 c_132 =>
  HC num_Mod.id #[.agg #[.bool b_126, .slice a_128 l_128 c_128], .agg #[.bool b_130, .slice a_132 l_132 c_132]] h124 fun v133 h134 =>
  gTup v133 fun y135 =>
  uncons y135 fun v136 y136 =>
  gAgg v136 fun y137 =>
  uncons y137 fun v138 y138 =>
  gBool v138 fun b_139 =>
  uncons y138 fun v140 y140 =>
  gSlice v140 fun a_141 l_141 c_141 =>
  unnil y140 <| uncons y136 fun v142 y142 =>
  gInt .i64 v142 fun x_143 =>
  unnil y142 <| boxK h134 24 T24.zs fun q144 h145 =>
  stK h145 (q144.add 0) (.bool b_139) fun h146 =>
  stK h146 (q144.add 1) (.slice a_141 l_141 c_141) fun h147 =>
  cond (x_74 != 0) (R (.bool false) h147) (cond (x_97 != 0) (R (.bool false) h147) (cond (x_120 != 0) (R (.bool false) h147) (cond (x_143 != 0) (R (.bool false) h147) (D4.t R q5 q7 q75 q98 q121 q144 h147))))
def D3.g (R : Rt) (fr : Fr) (h : Hp) : Prop := gPtrS (fr 5) fun q5 => gPtrS (fr 7) fun q7 => D3.t R q5 q7 h
theorem D3.ok (R : Rt) (fr : Fr) (h : Hp) (g : D3.g R fr h) : den prog E (cAt C [true, true, true, true, true]) (retQ E [.tmp 4] R) fr h := by
  obtain ⟨q5, e5, g⟩ := gPtrS_elim g
  obtain ⟨q7, e7, g⟩ := gPtrS_elim g
  exact den_cut 5 (r := (cAt C [true, true, true, true, true, true, true, true, true, true])) (by kernel_rfl) (D4.ok R) (den_enter [(5, .pointer (some q5)), (7, .pointer (some q7))] ⟨e5, e7, trivial⟩ (by kernel_rfl) g)
def D2.t (R : Rt) (q5 : Addr) (b6 : Bool) (q7 : Addr) (b8 : Bool) (h : Hp) : Prop :=
  cond (!b6) (R (.bool true) h) (cond (!b8) (R (.bool true) h) (ldK h (q7.add 0) fun v49 =>
  gBool v49 fun b_50 =>
  ldK h (q7.add 1) fun v51 =>
  gSlice v51 fun a_52 l_52 c_52 =>
  HC num_Sign.id #[.agg #[.bool b_50, .slice a_52 l_52 c_52]] h fun v53 h54 =>
  gInt .i64 v53 fun x_55 =>
  cond (x_55 == 0) (R (.bool true) h54) (D3.t R q5 q7 h54)))
def D2.g (R : Rt) (fr : Fr) (h : Hp) : Prop := gPtrS (fr 5) fun q5 => gBool (fr 6) fun b6 => gPtrS (fr 7) fun q7 => gBool (fr 8) fun b8 => D2.t R q5 b6 q7 b8 h
theorem D2.ok (R : Rt) (fr : Fr) (h : Hp) (g : D2.g R fr h) : den prog E (cAt C [true, true, true, true]) (retQ E [.tmp 4] R) fr h := by
  obtain ⟨q5, e5, g⟩ := gPtrS_elim g
  obtain ⟨b6, e6, g⟩ := gBool_elim g
  obtain ⟨q7, e7, g⟩ := gPtrS_elim g
  obtain ⟨b8, e8, g⟩ := gBool_elim g
  exact den_cut 1 (r := (cAt C [true, true, true, true, true])) (by kernel_rfl) (D3.ok R) (den_enter [(5, .pointer (some q5)), (6, .bool b6), (7, .pointer (some q7)), (8, .bool b8)] ⟨e5, e6, e7, e8, trivial⟩ (by kernel_rfl) g)
def D1.t (R : Rt) (b0_0 : Bool) (a0_1 : Option Addr) (l0_1 : Nat) (c0_1 : Nat) (b1_0 : Bool) (a1_1 : Option Addr) (l1_1 : Nat) (c1_1 : Nat) (h : Hp) : Prop :=
  boxK h 24 [.bool b0_0, .slice a0_1 l0_1 c0_1] fun q1 h2 =>
  boxK h2 24 [.bool b1_0, .slice a1_1 l1_1 c1_1] fun q3 h4 =>
  ldK h4 (q1.add 0) fun v5 =>
  gBool v5 fun b_6 =>
  ldK h4 (q1.add 1) fun v7 =>
  gSlice v7 fun a_8 l_8 c_8 =>
  HC gnomonlaw04_formed.id #[.agg #[.bool b_6, .slice a_8 l_8 c_8]] h4 fun v9 h10 =>
  gTup v9 fun y11 =>
  uncons y11 fun v12 y12 =>
  gAgg v12 fun y13 =>
  uncons y13 fun v14 y14 =>
  gBool v14 fun b_15 =>
  uncons y14 fun v16 y16 =>
  gSlice v16 fun a_17 l_17 c_17 =>
  unnil y16 <| uncons y12 fun v18 y18 =>
  gBool v18 fun b_19 =>
  unnil y18 <| boxK h10 24 T24.zs fun q20 h21 =>
  stK h21 (q20.add 0) (.bool b_15) fun h22 =>
  stK h22 (q20.add 1) (.slice a_17 l_17 c_17) fun h23 =>
  ldK h23 (q3.add 0) fun v24 =>
  gBool v24 fun b_25 =>
  ldK h23 (q3.add 1) fun v26 =>
  gSlice v26 fun a_27 l_27 c_27 =>
  HC gnomonlaw04_formed.id #[.agg #[.bool b_25, .slice a_27 l_27 c_27]] h23 fun v28 h29 =>
  gTup v28 fun y30 =>
  uncons y30 fun v31 y31 =>
  gAgg v31 fun y32 =>
  uncons y32 fun v33 y33 =>
  gBool v33 fun b_34 =>
  uncons y33 fun v35 y35 =>
  gSlice v35 fun a_36 l_36 c_36 =>
  unnil y35 <| uncons y31 fun v37 y37 =>
  gBool v37 fun b_38 =>
  unnil y37 <| boxK h29 24 T24.zs fun q39 h40 =>
  stK h40 (q39.add 0) (.bool b_34) fun h41 =>
  stK h41 (q39.add 1) (.slice a_36 l_36 c_36) fun h42 =>
  HC gnomonlaw04_awake.id #[] h42 fun v43 h44 =>
  gBool v43 fun b_45 =>
  cond (!b_45) (R (.bool false) h44) (HC gnomonlaw04_halves.id #[] h44 fun v46 h47 =>
  gBool v46 fun b_48 =>
  cond (!b_48) (R (.bool false) h47) (D2.t R q20 b_19 q39 b_38 h47))
def D1.g (R : Rt) (fr : Fr) (h : Hp) : Prop := gAgg (fr 0) fun z0 => uncons z0 fun w0_0 z0_0 => gBool w0_0 fun b0_0 => uncons z0_0 fun w0_1 z0_1 => gSlice w0_1 fun a0_1 l0_1 c0_1 => unnil z0_1 <| gAgg (fr 1) fun z1 => uncons z1 fun w1_0 z1_0 => gBool w1_0 fun b1_0 => uncons z1_0 fun w1_1 z1_1 => gSlice w1_1 fun a1_1 l1_1 c1_1 => unnil z1_1 <| D1.t R b0_0 a0_1 l0_1 c0_1 b1_0 a1_1 l1_1 c1_1 h
theorem D1.ok (R : Rt) (fr : Fr) (h : Hp) (g : D1.g R fr h) : den prog E C (retQ E [.tmp 4] R) fr h := by
  obtain ⟨z0, e0, g0_0⟩ := gAgg_elim' g
  obtain ⟨w0_0, z0_0, rfl, g0_0x⟩ := uncons_elim g0_0
  obtain ⟨b0_0, rfl, g0_1⟩ := gBool_elim g0_0x
  obtain ⟨w0_1, z0_1, rfl, g0_1x⟩ := uncons_elim g0_1
  obtain ⟨a0_1, l0_1, c0_1, rfl, g0_2⟩ := gSlice_elim g0_1x
  obtain ⟨rfl, g⟩ := unnil_elim g0_2
  obtain ⟨z1, e1, g1_0⟩ := gAgg_elim' g
  obtain ⟨w1_0, z1_0, rfl, g1_0x⟩ := uncons_elim g1_0
  obtain ⟨b1_0, rfl, g1_1⟩ := gBool_elim g1_0x
  obtain ⟨w1_1, z1_1, rfl, g1_1x⟩ := uncons_elim g1_1
  obtain ⟨a1_1, l1_1, c1_1, rfl, g1_2⟩ := gSlice_elim g1_1x
  obtain ⟨rfl, g⟩ := unnil_elim g1_2
  exact den_cut 4 (r := (cAt C [true, true, true, true])) (by kernel_rfl) (D2.ok R) (den_enter [(0, .agg #[.bool b0_0, .slice a0_1 l0_1 c0_1]), (1, .agg #[.bool b1_0, .slice a1_1 l1_1 c1_1])] ⟨e0, e1, trivial⟩ (by kernel_rfl) g)
def t (b0_0 : Bool) (a0_1 : Option Addr) (l0_1 : Nat) (c0_1 : Nat) (b1_0 : Bool) (a1_1 : Option Addr) (l1_1 : Nat) (c1_1 : Nat) (h : Hp) (R : Rt) : Prop := D1.t R b0_0 a0_1 l0_1 c0_1 b1_0 a1_1 l1_1 c1_1 h
theorem ok {b0_0 : Bool} {a0_1 : Option Addr} {l0_1 : Nat} {c0_1 : Nat} {b1_0 : Bool} {a1_1 : Option Addr} {l1_1 : Nat} {c1_1 : Nat} {h : Hp} {R : Rt} (g : t b0_0 a0_1 l0_1 c0_1 b1_0 a1_1 l1_1 c1_1 h R) : HC id #[.agg #[.bool b0_0, .slice a0_1 l0_1 c0_1], .agg #[.bool b1_0, .slice a1_1 l1_1 c1_1]] h R :=
  calls_of_den' envOk (c := C) (rs := [.tmp 4]) Tryd.func6 (by kernel_rfl) (by kernel_rfl) (by kernel_rfl) (args := [.agg #[.bool b0_0, .slice a0_1 l0_1 c0_1], .agg #[.bool b1_0, .slice a1_1 l1_1 c1_1]]) (by kernel_rfl) (D1.ok R _ h (gAgg_intro rfl (uncons_intro (gBool_intro rfl (uncons_intro (gSlice_intro rfl (unnil_intro (gAgg_intro rfl (uncons_intro (gBool_intro rfl (uncons_intro (gSlice_intro rfl (unnil_intro (g))))))))))))))
end gnomonlaw04_NumNests

namespace gnomonlaw04_formed
noncomputable def C : Code := bodyOf Tryd.f7
def D1.t (R : Rt) (b0_0 : Bool) (a0_1 : Option Addr) (l0_1 : Nat) (c0_1 : Nat) (h : Hp) : Prop :=
  boxK h 24 [.bool b0_0, .slice a0_1 l0_1 c0_1] fun q1 h2 =>
  boxK h2 24 T24.zs fun q3 h4 =>
  ldK h4 (q1.add 0) fun v5 =>
  gBool v5 fun b_6 =>
  ldK h4 (q1.add 1) fun v7 =>
  gSlice v7 fun a_8 l_8 c_8 =>
  HC gnomonref04_From.id #[.agg #[.bool b_6, .slice a_8 l_8 c_8]] h4 fun v9 h10 =>
  gAgg v9 fun y11 =>
  uncons y11 fun v12 y12 =>
  gBool v12 fun b_13 =>
  uncons y12 fun v14 y14 =>
  gSlice v14 fun a_15 l_15 c_15 =>
  unnil y14 <| HC gnomonref04_To.id #[.agg #[.bool b_13, .slice a_15 l_15 c_15]] h10 fun v16 h17 =>
  gAgg v16 fun y18 =>
  uncons y18 fun v19 y19 =>
  gBool v19 fun b_20 =>
  uncons y19 fun v21 y21 =>
  gSlice v21 fun a_22 l_22 c_22 =>
  unnil y21 <| boxK h17 24 T24.zs fun q23 h24 =>
  stK h24 (q23.add 0) (.bool b_20) fun h25 =>
  stK h25 (q23.add 1) (.slice a_22 l_22 c_22) fun h26 =>
  q23.block < h26.size ∧ ldK h26 (q23.add 0) fun v27 =>
  gBool v27 fun b_28 =>
  ldK h26 (q23.add 1) fun v29 =>
  gSlice v29 fun a_30 l_30 c_30 =>
  ((q23.add 1).block < h26.size ∧ ldK h26 (q23.add 1) fun v31 =>
  gSlice v31 fun a_32 l_32 c_32 =>
  stK h26 (q3.add 0) (.bool b_28) fun h33 =>
  stK h33 (q3.add 1) (.slice a_30 l_30 c_30) fun h34 =>
  ldK h34 (q3.add 0) fun v35 =>
  gBool v35 fun b_36 =>
  ldK h34 (q3.add 1) fun v37 =>
  gSlice v37 fun a_38 l_38 c_38 =>
  R (.tuple #[.agg #[.bool b_36, .slice a_38 l_38 c_38], .bool (decide ((((l_32 : Nat) : Int)) ≤ 8192))]) h34) ∧ (stK h26 (q3.add 0) (.bool b_28) fun h39 =>
  stK h39 (q3.add 1) (.slice a_30 l_30 c_30) fun h40 =>
  (q23.add 1).block < h26.size ∧ ldK h40 (q23.add 1) fun v41 =>
  gSlice v41 fun a_42 l_42 c_42 =>
  ldK h40 (q3.add 0) fun v43 =>
  gBool v43 fun b_44 =>
  ldK h40 (q3.add 1) fun v45 =>
  gSlice v45 fun a_46 l_46 c_46 =>
  R (.tuple #[.agg #[.bool b_44, .slice a_46 l_46 c_46], .bool (decide ((((l_42 : Nat) : Int)) ≤ 8192))]) h40)
def D1.g (R : Rt) (fr : Fr) (h : Hp) : Prop := gAgg (fr 0) fun z0 => uncons z0 fun w0_0 z0_0 => gBool w0_0 fun b0_0 => uncons z0_0 fun w0_1 z0_1 => gSlice w0_1 fun a0_1 l0_1 c0_1 => unnil z0_1 <| D1.t R b0_0 a0_1 l0_1 c0_1 h
theorem D1.ok (R : Rt) (fr : Fr) (h : Hp) (g : D1.g R fr h) : den prog E C (retQ E [.cell 2 24, .tmp 3] R) fr h := by
  obtain ⟨z0, e0, g0_0⟩ := gAgg_elim' g
  obtain ⟨w0_0, z0_0, rfl, g0_0x⟩ := uncons_elim g0_0
  obtain ⟨b0_0, rfl, g0_1⟩ := gBool_elim g0_0x
  obtain ⟨w0_1, z0_1, rfl, g0_1x⟩ := uncons_elim g0_1
  obtain ⟨a0_1, l0_1, c0_1, rfl, g0_2⟩ := gSlice_elim g0_1x
  obtain ⟨rfl, g⟩ := unnil_elim g0_2
  exact den_enter [(0, .agg #[.bool b0_0, .slice a0_1 l0_1 c0_1])] ⟨e0, trivial⟩ (by kernel_rfl) g
def t (b0_0 : Bool) (a0_1 : Option Addr) (l0_1 : Nat) (c0_1 : Nat) (h : Hp) (R : Rt) : Prop := D1.t R b0_0 a0_1 l0_1 c0_1 h
theorem ok {b0_0 : Bool} {a0_1 : Option Addr} {l0_1 : Nat} {c0_1 : Nat} {h : Hp} {R : Rt} (g : t b0_0 a0_1 l0_1 c0_1 h R) : HC id #[.agg #[.bool b0_0, .slice a0_1 l0_1 c0_1]] h R :=
  calls_of_den' envOk (c := C) (rs := [.cell 2 24, .tmp 3]) Tryd.func7 (by kernel_rfl) (by kernel_rfl) (by kernel_rfl) (args := [.agg #[.bool b0_0, .slice a0_1 l0_1 c0_1]]) (by kernel_rfl) (D1.ok R _ h (gAgg_intro rfl (uncons_intro (gBool_intro rfl (uncons_intro (gSlice_intro rfl (unnil_intro (g))))))))
end gnomonlaw04_formed

namespace gnomonlaw04_awake
noncomputable def C : Code := bodyOf Tryd.f8
def D2.t (R : Rt) (x2 : Int) (q3 : Addr) (x4 : Int) (h : Hp) : Prop :=
  ldK h (q3.add 0) fun v56 =>
  gBool v56 fun b_57 =>
  ldK h (q3.add 1) fun v58 =>
  gSlice v58 fun a_59 l_59 c_59 =>
  HC num_Small.id #[.agg #[.bool b_57, .slice a_59 l_59 c_59]] h fun v60 h61 =>
  gTup v60 fun y62 =>
  uncons y62 fun v63 y63 =>
  gInt .i64 v63 fun x_64 =>
  uncons y63 fun v65 y65 =>
  gInt .i64 v65 fun x_66 =>
  unnil y65 <| cond (x2 == 0) (cond (x4 == 0) (cond (x_66 == 0) (cond (x_64 == (-14)) (ldK h61 (q3.add 0) fun v67 =>
  gBool v67 fun b_68 =>
  ldK h61 (q3.add 1) fun v69 =>
  gSlice v69 fun a_70 l_70 c_70 =>
  HC num_Sign.id #[.agg #[.bool b_68, .slice a_70 l_70 c_70]] h61 fun v71 h72 =>
  gInt .i64 v71 fun x_73 =>
  cond (x_73 == (-1)) (ldK h72 (q3.add 0) fun v74 =>
  gBool v74 fun b_75 =>
  ldK h72 (q3.add 1) fun v76 =>
  gSlice v76 fun a_77 l_77 c_77 =>
  HC num_Form.id #[.agg #[.bool b_75, .slice a_77 l_77 c_77]] h72 fun v78 h79 =>
  gBool v78 fun b_80 =>
  R (.bool b_80) h79) (R (.bool false) h72)) (R (.bool false) h61)) (R (.bool false) h61)) (R (.bool false) h61)) (R (.bool false) h61)
def D2.g (R : Rt) (fr : Fr) (h : Hp) : Prop := gInt .i64 (fr 2) fun x2 => gPtrS (fr 3) fun q3 => gInt .i64 (fr 4) fun x4 => D2.t R x2 q3 x4 h
theorem D2.ok (R : Rt) (fr : Fr) (h : Hp) (g : D2.g R fr h) : den prog E (cAt C [true, true, true]) (retQ E [.tmp 0] R) fr h := by
  obtain ⟨x2, e2, g⟩ := gInt_elim g
  obtain ⟨q3, e3, g⟩ := gPtrS_elim g
  obtain ⟨x4, e4, g⟩ := gInt_elim g
  exact den_enter [(2, .int .i64 x2), (3, .pointer (some q3)), (4, .int .i64 x4)] ⟨e2, e3, e4, trivial⟩ (by kernel_rfl) g
def D1.t (R : Rt)  (h : Hp) : Prop :=
  HC num_Of.id #[.int .i64 (-5)] h fun v1 h2 =>
  gAgg v1 fun y3 =>
  uncons y3 fun v4 y4 =>
  gBool v4 fun b_5 =>
  uncons y4 fun v6 y6 =>
  gSlice v6 fun a_7 l_7 c_7 =>
  unnil y6 <| HC num_Of.id #[.int .i64 3] h2 fun v8 h9 =>
  gAgg v8 fun y10 =>
  uncons y10 fun v11 y11 =>
  gBool v11 fun b_12 =>
  uncons y11 fun v13 y13 =>
  gSlice v13 fun a_14 l_14 c_14 =>
  unnil y13 <| HC num_Add.id #[.agg #[.bool b_5, .slice a_7 l_7 c_7], .agg #[.bool b_12, .slice a_14 l_14 c_14]] h9 fun v15 h16 =>
  gTup v15 fun y17 =>
  uncons y17 fun v18 y18 =>
  gAgg v18 fun y19 =>
  uncons y19 fun v20 y20 =>
  gBool v20 fun b_21 =>
  uncons y20 fun v22 y22 =>
  gSlice v22 fun a_23 l_23 c_23 =>
  unnil y22 <| uncons y18 fun v24 y24 =>
  gInt .i64 v24 fun x_25 =>
  unnil y24 <| boxK h16 24 T24.zs fun q26 h27 =>
  stK h27 (q26.add 0) (.bool b_21) fun h28 =>
  stK h28 (q26.add 1) (.slice a_23 l_23 c_23) fun h29 =>
  q26.block < h29.size ∧ ldK h29 (q26.add 0) fun v30 =>
  gBool v30 fun b_31 =>
  ldK h29 (q26.add 1) fun v32 =>
  gSlice v32 fun a_33 l_33 c_33 =>
  (HC num_Of.id #[.int .i64 7] h29 fun v34 h35 =>
  gAgg v34 fun y36 =>
  uncons y36 fun v37 y37 =>
  gBool v37 fun b_38 =>
  uncons y37 fun v39 y39 =>
  gSlice v39 fun a_40 l_40 c_40 =>
  unnil y39 <| (Pre h29.size h29 h35) ∧ (HC num_Mul.id #[.agg #[.bool b_31, .slice a_33 l_33 c_33], .agg #[.bool b_38, .slice a_40 l_40 c_40]] h35 fun v41 h42 =>
  gTup v41 fun y43 =>
  uncons y43 fun v44 y44 =>
  gAgg v44 fun y45 =>
  uncons y45 fun v46 y46 =>
  gBool v46 fun b_47 =>
  uncons y46 fun v48 y48 =>
  gSlice v48 fun a_49 l_49 c_49 =>
  unnil y48 <| uncons y44 fun v50 y50 =>
  gInt .i64 v50 fun x_51 =>
  unnil y50 <| (Pre h29.size h35 h42) ∧ boxK h42 24 T24.zs fun q52 h53 =>
  (Pre h29.size h42 h53) ∧ stK h53 (q52.add 0) (.bool b_47) fun h54 =>
  stK h54 (q52.add 1) (.slice a_49 l_49 c_49) fun h55 =>
  D2.t R x_25 q52 x_51 h55) ∧ (boxK h35 24 T24.zs fun q81 h82 =>
  (Pre h29.size h35 h82) ∧ HC num_Mul.id #[.agg #[.bool b_31, .slice a_33 l_33 c_33], .agg #[.bool b_38, .slice a_40 l_40 c_40]] h82 fun v83 h84 =>
  gTup v83 fun y85 =>
  uncons y85 fun v86 y86 =>
  gAgg v86 fun y87 =>
  uncons y87 fun v88 y88 =>
  gBool v88 fun b_89 =>
  uncons y88 fun v90 y90 =>
  gSlice v90 fun a_91 l_91 c_91 =>
  unnil y90 <| uncons y86 fun v92 y92 =>
  gInt .i64 v92 fun x_93 =>
  unnil y92 <| (Pre h29.size h82 h84) ∧ stK h84 (q81.add 0) (.bool b_89) fun h94 =>
  stK h94 (q81.add 1) (.slice a_91 l_91 c_91) fun h95 =>
  D2.t R x_25 q81 x_93 h95)) ∧ (boxK h29 24 T24.zs fun q96 h97 =>
  (Pre h29.size h29 h97) ∧ HC num_Of.id #[.int .i64 7] h97 fun v98 h99 =>
  gAgg v98 fun y100 =>
  uncons y100 fun v101 y101 =>
  gBool v101 fun b_102 =>
  uncons y101 fun v103 y103 =>
  gSlice v103 fun a_104 l_104 c_104 =>
  unnil y103 <| (Pre h29.size h97 h99) ∧ HC num_Mul.id #[.agg #[.bool b_31, .slice a_33 l_33 c_33], .agg #[.bool b_102, .slice a_104 l_104 c_104]] h99 fun v105 h106 =>
  gTup v105 fun y107 =>
  uncons y107 fun v108 y108 =>
  gAgg v108 fun y109 =>
  uncons y109 fun v110 y110 =>
  gBool v110 fun b_111 =>
  uncons y110 fun v112 y112 =>
  gSlice v112 fun a_113 l_113 c_113 =>
  unnil y112 <| uncons y108 fun v114 y114 =>
  gInt .i64 v114 fun x_115 =>
  unnil y114 <| (Pre h29.size h99 h106) ∧ stK h106 (q96.add 0) (.bool b_111) fun h116 =>
  stK h116 (q96.add 1) (.slice a_113 l_113 c_113) fun h117 =>
  D2.t R x_25 q96 x_115 h117)
def D1.g (R : Rt) (fr : Fr) (h : Hp) : Prop := D1.t R  h
theorem D1.ok (R : Rt) (fr : Fr) (h : Hp) (g : D1.g R fr h) : den prog E C (retQ E [.tmp 0] R) fr h := by
  exact den_cut 3 (r := (cAt C [true, true, true])) (by kernel_rfl) (D2.ok R) (den_enter [] trivial (by kernel_rfl) g)
def t  (h : Hp) (R : Rt) : Prop := D1.t R h
theorem ok  {h : Hp} {R : Rt} (g : t  h R) : HC id #[] h R :=
  calls_of_den' envOk (c := C) (rs := [.tmp 0]) Tryd.func8 (by kernel_rfl) (by kernel_rfl) (by kernel_rfl) (args := []) (by kernel_rfl) (D1.ok R _ h (g))
end gnomonlaw04_awake

namespace gnomonlaw04_halves
noncomputable def C : Code := bodyOf Tryd.f9
def D1.t (R : Rt)  (h : Hp) : Prop :=
  HC num_Of.id #[.int .i64 (-7)] h fun v1 h2 =>
  gAgg v1 fun y3 =>
  uncons y3 fun v4 y4 =>
  gBool v4 fun b_5 =>
  uncons y4 fun v6 y6 =>
  gSlice v6 fun a_7 l_7 c_7 =>
  unnil y6 <| HC num_Of.id #[.int .i64 2] h2 fun v8 h9 =>
  gAgg v8 fun y10 =>
  uncons y10 fun v11 y11 =>
  gBool v11 fun b_12 =>
  uncons y11 fun v13 y13 =>
  gSlice v13 fun a_14 l_14 c_14 =>
  unnil y13 <| HC num_FloorDiv.id #[.agg #[.bool b_5, .slice a_7 l_7 c_7], .agg #[.bool b_12, .slice a_14 l_14 c_14]] h9 fun v15 h16 =>
  gTup v15 fun y17 =>
  uncons y17 fun v18 y18 =>
  gAgg v18 fun y19 =>
  uncons y19 fun v20 y20 =>
  gBool v20 fun b_21 =>
  uncons y20 fun v22 y22 =>
  gSlice v22 fun a_23 l_23 c_23 =>
  unnil y22 <| uncons y18 fun v24 y24 =>
  gInt .i64 v24 fun x_25 =>
  unnil y24 <| boxK h16 24 T24.zs fun q26 h27 =>
  stK h27 (q26.add 0) (.bool b_21) fun h28 =>
  stK h28 (q26.add 1) (.slice a_23 l_23 c_23) fun h29 =>
  HC num_Of.id #[.int .i64 7] h29 fun v30 h31 =>
  gAgg v30 fun y32 =>
  uncons y32 fun v33 y33 =>
  gBool v33 fun b_34 =>
  uncons y33 fun v35 y35 =>
  gSlice v35 fun a_36 l_36 c_36 =>
  unnil y35 <| HC num_NearShr.id #[.agg #[.bool b_34, .slice a_36 l_36 c_36], .int .i64 1] h31 fun v37 h38 =>
  gTup v37 fun y39 =>
  uncons y39 fun v40 y40 =>
  gAgg v40 fun y41 =>
  uncons y41 fun v42 y42 =>
  gBool v42 fun b_43 =>
  uncons y42 fun v44 y44 =>
  gSlice v44 fun a_45 l_45 c_45 =>
  unnil y44 <| uncons y40 fun v46 y46 =>
  gInt .i64 v46 fun x_47 =>
  unnil y46 <| boxK h38 24 T24.zs fun q48 h49 =>
  stK h49 (q48.add 0) (.bool b_43) fun h50 =>
  stK h50 (q48.add 1) (.slice a_45 l_45 c_45) fun h51 =>
  HC num_Of.id #[.int .i64 (-7)] h51 fun v52 h53 =>
  gAgg v52 fun y54 =>
  uncons y54 fun v55 y55 =>
  gBool v55 fun b_56 =>
  uncons y55 fun v57 y57 =>
  gSlice v57 fun a_58 l_58 c_58 =>
  unnil y57 <| HC num_Of.id #[.int .i64 3] h53 fun v59 h60 =>
  gAgg v59 fun y61 =>
  uncons y61 fun v62 y62 =>
  gBool v62 fun b_63 =>
  uncons y62 fun v64 y64 =>
  gSlice v64 fun a_65 l_65 c_65 =>
  unnil y64 <| HC num_Mod.id #[.agg #[.bool b_56, .slice a_58 l_58 c_58], .agg #[.bool b_63, .slice a_65 l_65 c_65]] h60 fun v66 h67 =>
  gTup v66 fun y68 =>
  uncons y68 fun v69 y69 =>
  gAgg v69 fun y70 =>
  uncons y70 fun v71 y71 =>
  gBool v71 fun b_72 =>
  uncons y71 fun v73 y73 =>
  gSlice v73 fun a_74 l_74 c_74 =>
  unnil y73 <| uncons y69 fun v75 y75 =>
  gInt .i64 v75 fun x_76 =>
  unnil y75 <| boxK h67 24 T24.zs fun q77 h78 =>
  stK h78 (q77.add 0) (.bool b_72) fun h79 =>
  stK h79 (q77.add 1) (.slice a_74 l_74 c_74) fun h80 =>
  cond (x_25 == 0) (cond (x_47 == 0) (cond (x_76 == 0) (q26.block < h80.size ∧ ldK h80 (q26.add 0) fun v81 =>
  gBool v81 fun b_82 =>
  ldK h80 (q26.add 1) fun v83 =>
  gSlice v83 fun a_84 l_84 c_84 =>
  HC gnomonref04_DocOf.id #[.int .i64 (-4)] h80 fun v85 h86 =>
  gAgg v85 fun y87 =>
  uncons y87 fun v88 y88 =>
  gBool v88 fun b_89 =>
  uncons y88 fun v90 y90 =>
  gSlice v90 fun a_91 l_91 c_91 =>
  unnil y90 <| (Pre h80.size h80 h86) ∧ HC gnomonlaw04_same.id #[.agg #[.bool b_82, .slice a_84 l_84 c_84], .agg #[.bool b_89, .slice a_91 l_91 c_91]] h86 fun v92 h93 =>
  gBool v92 fun b_94 =>
  (Pre h80.size h86 h93) ∧ cond b_94 (q48.block < h80.size ∧ ldK h93 (q48.add 0) fun v95 =>
  gBool v95 fun b_96 =>
  ldK h93 (q48.add 1) fun v97 =>
  gSlice v97 fun a_98 l_98 c_98 =>
  HC gnomonref04_DocOf.id #[.int .i64 4] h93 fun v99 h100 =>
  gAgg v99 fun y101 =>
  uncons y101 fun v102 y102 =>
  gBool v102 fun b_103 =>
  uncons y102 fun v104 y104 =>
  gSlice v104 fun a_105 l_105 c_105 =>
  unnil y104 <| (Pre h80.size h93 h100) ∧ HC gnomonlaw04_same.id #[.agg #[.bool b_96, .slice a_98 l_98 c_98], .agg #[.bool b_103, .slice a_105 l_105 c_105]] h100 fun v106 h107 =>
  gBool v106 fun b_108 =>
  (Pre h80.size h100 h107) ∧ cond b_108 (q77.block < h80.size ∧ ldK h107 (q77.add 0) fun v109 =>
  gBool v109 fun b_110 =>
  ldK h107 (q77.add 1) fun v111 =>
  gSlice v111 fun a_112 l_112 c_112 =>
  HC gnomonref04_DocOf.id #[.int .i64 2] h107 fun v113 h114 =>
  gAgg v113 fun y115 =>
  uncons y115 fun v116 y116 =>
  gBool v116 fun b_117 =>
  uncons y116 fun v118 y118 =>
  gSlice v118 fun a_119 l_119 c_119 =>
  unnil y118 <| (Pre h80.size h107 h114) ∧ HC gnomonlaw04_same.id #[.agg #[.bool b_110, .slice a_112 l_112 c_112], .agg #[.bool b_117, .slice a_119 l_119 c_119]] h114 fun v120 h121 =>
  gBool v120 fun b_122 =>
  (Pre h80.size h114 h121) ∧ R (.bool b_122) h121) (R (.bool false) h107)) (R (.bool false) h93)) (R (.bool false) h80)) (R (.bool false) h80)) (R (.bool false) h80)
def D1.g (R : Rt) (fr : Fr) (h : Hp) : Prop := D1.t R  h
theorem D1.ok (R : Rt) (fr : Fr) (h : Hp) (g : D1.g R fr h) : den prog E C (retQ E [.tmp 0] R) fr h := by
  exact den_enter [] trivial (by kernel_rfl) g
def t  (h : Hp) (R : Rt) : Prop := D1.t R h
theorem ok  {h : Hp} {R : Rt} (g : t  h R) : HC id #[] h R :=
  calls_of_den' envOk (c := C) (rs := [.tmp 0]) Tryd.func9 (by kernel_rfl) (by kernel_rfl) (by kernel_rfl) (args := []) (by kernel_rfl) (D1.ok R _ h (g))
end gnomonlaw04_halves

namespace num_Neg
noncomputable def C : Code := bodyOf Tryd.f10
def D1.t (R : Rt) (b0_0 : Bool) (a0_1 : Option Addr) (l0_1 : Nat) (c0_1 : Nat) (h : Hp) : Prop :=
  boxK h 24 [.bool b0_0, .slice a0_1 l0_1 c0_1] fun q1 h2 =>
  boxK h2 24 T24.zs fun q3 h4 =>
  ldK h4 (q1.add 0) fun v5 =>
  gBool v5 fun b_6 =>
  ldK h4 (q1.add 1) fun v7 =>
  gSlice v7 fun a_8 l_8 c_8 =>
  HC num_Form.id #[.agg #[.bool b_6, .slice a_8 l_8 c_8]] h4 fun v9 h10 =>
  gBool v9 fun b_11 =>
  cond (!b_11) (stK h10 (q3.add 0) (.bool false) fun h12 =>
  stK h12 (q3.add 1) (.slice none 0 0) fun h13 =>
  ldK h13 (q3.add 0) fun v14 =>
  gBool v14 fun b_15 =>
  ldK h13 (q3.add 1) fun v16 =>
  gSlice v16 fun a_17 l_17 c_17 =>
  R (.tuple #[.agg #[.bool b_15, .slice a_17 l_17 c_17], .int .i64 2]) h13) (ldK h10 (q1.add 1) fun v18 =>
  gSlice v18 fun a_19 l_19 c_19 =>
  HC nat_Norm.id #[.slice a_19 l_19 c_19] h10 fun v20 h21 =>
  gTup v20 fun y22 =>
  uncons y22 fun v23 y23 =>
  gSlice v23 fun a_24 l_24 c_24 =>
  uncons y23 fun v25 y25 =>
  gInt .i64 v25 fun x_26 =>
  unnil y25 <| ldK h21 (q1.add 0) fun v27 =>
  gBool v27 fun b_28 =>
  HC num_told.id #[.bool (!b_28), .slice a_24 l_24 c_24, .int .i64 x_26] h21 fun v29 h30 =>
  gTup v29 fun y31 =>
  uncons y31 fun v32 y32 =>
  gAgg v32 fun y33 =>
  uncons y33 fun v34 y34 =>
  gBool v34 fun b_35 =>
  uncons y34 fun v36 y36 =>
  gSlice v36 fun a_37 l_37 c_37 =>
  unnil y36 <| uncons y32 fun v38 y38 =>
  gInt .i64 v38 fun x_39 =>
  unnil y38 <| stK h30 (q3.add 0) (.bool b_35) fun h40 =>
  stK h40 (q3.add 1) (.slice a_37 l_37 c_37) fun h41 =>
  ldK h41 (q3.add 0) fun v42 =>
  gBool v42 fun b_43 =>
  ldK h41 (q3.add 1) fun v44 =>
  gSlice v44 fun a_45 l_45 c_45 =>
  R (.tuple #[.agg #[.bool b_43, .slice a_45 l_45 c_45], .int .i64 x_39]) h41)
def D1.g (R : Rt) (fr : Fr) (h : Hp) : Prop := gAgg (fr 0) fun z0 => uncons z0 fun w0_0 z0_0 => gBool w0_0 fun b0_0 => uncons z0_0 fun w0_1 z0_1 => gSlice w0_1 fun a0_1 l0_1 c0_1 => unnil z0_1 <| D1.t R b0_0 a0_1 l0_1 c0_1 h
theorem D1.ok (R : Rt) (fr : Fr) (h : Hp) (g : D1.g R fr h) : den prog E C (retQ E [.cell 2 24, .tmp 3] R) fr h := by
  obtain ⟨z0, e0, g0_0⟩ := gAgg_elim' g
  obtain ⟨w0_0, z0_0, rfl, g0_0x⟩ := uncons_elim g0_0
  obtain ⟨b0_0, rfl, g0_1⟩ := gBool_elim g0_0x
  obtain ⟨w0_1, z0_1, rfl, g0_1x⟩ := uncons_elim g0_1
  obtain ⟨a0_1, l0_1, c0_1, rfl, g0_2⟩ := gSlice_elim g0_1x
  obtain ⟨rfl, g⟩ := unnil_elim g0_2
  exact den_enter [(0, .agg #[.bool b0_0, .slice a0_1 l0_1 c0_1])] ⟨e0, trivial⟩ (by kernel_rfl) g
def t (b0_0 : Bool) (a0_1 : Option Addr) (l0_1 : Nat) (c0_1 : Nat) (h : Hp) (R : Rt) : Prop := D1.t R b0_0 a0_1 l0_1 c0_1 h
theorem ok {b0_0 : Bool} {a0_1 : Option Addr} {l0_1 : Nat} {c0_1 : Nat} {h : Hp} {R : Rt} (g : t b0_0 a0_1 l0_1 c0_1 h R) : HC id #[.agg #[.bool b0_0, .slice a0_1 l0_1 c0_1]] h R :=
  calls_of_den' envOk (c := C) (rs := [.cell 2 24, .tmp 3]) Tryd.func10 (by kernel_rfl) (by kernel_rfl) (by kernel_rfl) (args := [.agg #[.bool b0_0, .slice a0_1 l0_1 c0_1]]) (by kernel_rfl) (D1.ok R _ h (gAgg_intro rfl (uncons_intro (gBool_intro rfl (uncons_intro (gSlice_intro rfl (unnil_intro (g))))))))
end num_Neg

namespace gnomonlaw04_same
noncomputable def C : Code := bodyOf Tryd.f11
def D1.t (R : Rt) (b0_0 : Bool) (a0_1 : Option Addr) (l0_1 : Nat) (c0_1 : Nat) (b1_0 : Bool) (a1_1 : Option Addr) (l1_1 : Nat) (c1_1 : Nat) (h : Hp) : Prop :=
  boxK h 24 [.bool b0_0, .slice a0_1 l0_1 c0_1] fun q1 h2 =>
  boxK h2 24 [.bool b1_0, .slice a1_1 l1_1 c1_1] fun q3 h4 =>
  ldK h4 (q1.add 0) fun v5 =>
  gBool v5 fun b_6 =>
  ldK h4 (q3.add 0) fun v7 =>
  gBool v7 fun b_8 =>
  cond (b_6 == b_8) (ldK h4 (q1.add 1) fun v9 =>
  gSlice v9 fun a_10 l_10 c_10 =>
  ldK h4 (q3.add 1) fun v11 =>
  gSlice v11 fun a_12 l_12 c_12 =>
  HQC gnomonref01_Same.id #[.slice a_10 l_10 c_10, .slice a_12 l_12 c_12] h4 fun v13 =>
  gBool v13 fun b_14 =>
  R (.bool b_14) h4) (R (.bool false) h4)
def D1.g (R : Rt) (fr : Fr) (h : Hp) : Prop := gAgg (fr 0) fun z0 => uncons z0 fun w0_0 z0_0 => gBool w0_0 fun b0_0 => uncons z0_0 fun w0_1 z0_1 => gSlice w0_1 fun a0_1 l0_1 c0_1 => unnil z0_1 <| gAgg (fr 1) fun z1 => uncons z1 fun w1_0 z1_0 => gBool w1_0 fun b1_0 => uncons z1_0 fun w1_1 z1_1 => gSlice w1_1 fun a1_1 l1_1 c1_1 => unnil z1_1 <| D1.t R b0_0 a0_1 l0_1 c0_1 b1_0 a1_1 l1_1 c1_1 h
theorem D1.ok (R : Rt) (fr : Fr) (h : Hp) (g : D1.g R fr h) : den prog E C (retQ E [.tmp 4] R) fr h := by
  obtain ⟨z0, e0, g0_0⟩ := gAgg_elim' g
  obtain ⟨w0_0, z0_0, rfl, g0_0x⟩ := uncons_elim g0_0
  obtain ⟨b0_0, rfl, g0_1⟩ := gBool_elim g0_0x
  obtain ⟨w0_1, z0_1, rfl, g0_1x⟩ := uncons_elim g0_1
  obtain ⟨a0_1, l0_1, c0_1, rfl, g0_2⟩ := gSlice_elim g0_1x
  obtain ⟨rfl, g⟩ := unnil_elim g0_2
  obtain ⟨z1, e1, g1_0⟩ := gAgg_elim' g
  obtain ⟨w1_0, z1_0, rfl, g1_0x⟩ := uncons_elim g1_0
  obtain ⟨b1_0, rfl, g1_1⟩ := gBool_elim g1_0x
  obtain ⟨w1_1, z1_1, rfl, g1_1x⟩ := uncons_elim g1_1
  obtain ⟨a1_1, l1_1, c1_1, rfl, g1_2⟩ := gSlice_elim g1_1x
  obtain ⟨rfl, g⟩ := unnil_elim g1_2
  exact den_enter [(0, .agg #[.bool b0_0, .slice a0_1 l0_1 c0_1]), (1, .agg #[.bool b1_0, .slice a1_1 l1_1 c1_1])] ⟨e0, e1, trivial⟩ (by kernel_rfl) g
def t (b0_0 : Bool) (a0_1 : Option Addr) (l0_1 : Nat) (c0_1 : Nat) (b1_0 : Bool) (a1_1 : Option Addr) (l1_1 : Nat) (c1_1 : Nat) (h : Hp) (R : Rt) : Prop := D1.t R b0_0 a0_1 l0_1 c0_1 b1_0 a1_1 l1_1 c1_1 h
theorem ok {b0_0 : Bool} {a0_1 : Option Addr} {l0_1 : Nat} {c0_1 : Nat} {b1_0 : Bool} {a1_1 : Option Addr} {l1_1 : Nat} {c1_1 : Nat} {h : Hp} {R : Rt} (g : t b0_0 a0_1 l0_1 c0_1 b1_0 a1_1 l1_1 c1_1 h R) : HC id #[.agg #[.bool b0_0, .slice a0_1 l0_1 c0_1], .agg #[.bool b1_0, .slice a1_1 l1_1 c1_1]] h R :=
  calls_of_den' envOk (c := C) (rs := [.tmp 4]) Tryd.func11 (by kernel_rfl) (by kernel_rfl) (by kernel_rfl) (args := [.agg #[.bool b0_0, .slice a0_1 l0_1 c0_1], .agg #[.bool b1_0, .slice a1_1 l1_1 c1_1]]) (by kernel_rfl) (D1.ok R _ h (gAgg_intro rfl (uncons_intro (gBool_intro rfl (uncons_intro (gSlice_intro rfl (unnil_intro (gAgg_intro rfl (uncons_intro (gBool_intro rfl (uncons_intro (gSlice_intro rfl (unnil_intro (g))))))))))))))
end gnomonlaw04_same

namespace num_Sign
noncomputable def C : Code := bodyOf Tryd.f12
def D1.t (R : Rt) (b0_0 : Bool) (a0_1 : Option Addr) (l0_1 : Nat) (c0_1 : Nat) (h : Hp) : Prop :=
  boxK h 24 [.bool b0_0, .slice a0_1 l0_1 c0_1] fun q1 h2 =>
  ldK h2 (q1.add 1) fun v3 =>
  gSlice v3 fun a_4 l_4 c_4 =>
  HC nat_Bits.id #[.slice a_4 l_4 c_4] h2 fun v5 h6 =>
  gInt .i64 v5 fun x_7 =>
  cond (x_7 == 0) (R (.int .i64 0) h6) (ldK h6 (q1.add 0) fun v8 =>
  gBool v8 fun b_9 =>
  cond b_9 (R (.int .i64 (-1)) h6) (R (.int .i64 1) h6))
def D1.g (R : Rt) (fr : Fr) (h : Hp) : Prop := gAgg (fr 0) fun z0 => uncons z0 fun w0_0 z0_0 => gBool w0_0 fun b0_0 => uncons z0_0 fun w0_1 z0_1 => gSlice w0_1 fun a0_1 l0_1 c0_1 => unnil z0_1 <| D1.t R b0_0 a0_1 l0_1 c0_1 h
theorem D1.ok (R : Rt) (fr : Fr) (h : Hp) (g : D1.g R fr h) : den prog E C (retQ E [.tmp 2] R) fr h := by
  obtain ⟨z0, e0, g0_0⟩ := gAgg_elim' g
  obtain ⟨w0_0, z0_0, rfl, g0_0x⟩ := uncons_elim g0_0
  obtain ⟨b0_0, rfl, g0_1⟩ := gBool_elim g0_0x
  obtain ⟨w0_1, z0_1, rfl, g0_1x⟩ := uncons_elim g0_1
  obtain ⟨a0_1, l0_1, c0_1, rfl, g0_2⟩ := gSlice_elim g0_1x
  obtain ⟨rfl, g⟩ := unnil_elim g0_2
  exact den_enter [(0, .agg #[.bool b0_0, .slice a0_1 l0_1 c0_1])] ⟨e0, trivial⟩ (by kernel_rfl) g
def t (b0_0 : Bool) (a0_1 : Option Addr) (l0_1 : Nat) (c0_1 : Nat) (h : Hp) (R : Rt) : Prop := D1.t R b0_0 a0_1 l0_1 c0_1 h
theorem ok {b0_0 : Bool} {a0_1 : Option Addr} {l0_1 : Nat} {c0_1 : Nat} {h : Hp} {R : Rt} (g : t b0_0 a0_1 l0_1 c0_1 h R) : HC id #[.agg #[.bool b0_0, .slice a0_1 l0_1 c0_1]] h R :=
  calls_of_den' envOk (c := C) (rs := [.tmp 2]) Tryd.func12 (by kernel_rfl) (by kernel_rfl) (by kernel_rfl) (args := [.agg #[.bool b0_0, .slice a0_1 l0_1 c0_1]]) (by kernel_rfl) (D1.ok R _ h (gAgg_intro rfl (uncons_intro (gBool_intro rfl (uncons_intro (gSlice_intro rfl (unnil_intro (g))))))))
end num_Sign

namespace num_FloorShr
noncomputable def C : Code := bodyOf Tryd.f13
def D1.t (R : Rt) (b0_0 : Bool) (a0_1 : Option Addr) (l0_1 : Nat) (c0_1 : Nat) (x1 : Int) (h : Hp) : Prop :=
  boxK h 24 [.bool b0_0, .slice a0_1 l0_1 c0_1] fun q1 h2 =>
  boxK h2 24 T24.zs fun q3 h4 =>
  ldK h4 (q1.add 0) fun v5 =>
  gBool v5 fun b_6 =>
  ldK h4 (q1.add 1) fun v7 =>
  gSlice v7 fun a_8 l_8 c_8 =>
  HC num_way_shr.id #[.int .i64 0, .agg #[.bool b_6, .slice a_8 l_8 c_8], .int .i64 x1] h4 fun v9 h10 =>
  gTup v9 fun y11 =>
  uncons y11 fun v12 y12 =>
  gAgg v12 fun y13 =>
  uncons y13 fun v14 y14 =>
  gBool v14 fun b_15 =>
  uncons y14 fun v16 y16 =>
  gSlice v16 fun a_17 l_17 c_17 =>
  unnil y16 <| uncons y12 fun v18 y18 =>
  gInt .i64 v18 fun x_19 =>
  unnil y18 <| stK h10 (q3.add 0) (.bool b_15) fun h20 =>
  stK h20 (q3.add 1) (.slice a_17 l_17 c_17) fun h21 =>
  ldK h21 (q3.add 0) fun v22 =>
  gBool v22 fun b_23 =>
  ldK h21 (q3.add 1) fun v24 =>
  gSlice v24 fun a_25 l_25 c_25 =>
  R (.tuple #[.agg #[.bool b_23, .slice a_25 l_25 c_25], .int .i64 x_19]) h21
def D1.g (R : Rt) (fr : Fr) (h : Hp) : Prop := gAgg (fr 0) fun z0 => uncons z0 fun w0_0 z0_0 => gBool w0_0 fun b0_0 => uncons z0_0 fun w0_1 z0_1 => gSlice w0_1 fun a0_1 l0_1 c0_1 => unnil z0_1 <| gInt .i64 (fr 1) fun x1 => D1.t R b0_0 a0_1 l0_1 c0_1 x1 h
theorem D1.ok (R : Rt) (fr : Fr) (h : Hp) (g : D1.g R fr h) : den prog E C (retQ E [.cell 4 24, .tmp 5] R) fr h := by
  obtain ⟨z0, e0, g0_0⟩ := gAgg_elim' g
  obtain ⟨w0_0, z0_0, rfl, g0_0x⟩ := uncons_elim g0_0
  obtain ⟨b0_0, rfl, g0_1⟩ := gBool_elim g0_0x
  obtain ⟨w0_1, z0_1, rfl, g0_1x⟩ := uncons_elim g0_1
  obtain ⟨a0_1, l0_1, c0_1, rfl, g0_2⟩ := gSlice_elim g0_1x
  obtain ⟨rfl, g⟩ := unnil_elim g0_2
  obtain ⟨x1, e1, g⟩ := gInt_elim g
  exact den_enter [(0, .agg #[.bool b0_0, .slice a0_1 l0_1 c0_1]), (1, .int .i64 x1)] ⟨e0, e1, trivial⟩ (by kernel_rfl) g
def t (b0_0 : Bool) (a0_1 : Option Addr) (l0_1 : Nat) (c0_1 : Nat) (x1 : Int) (h : Hp) (R : Rt) : Prop := D1.t R b0_0 a0_1 l0_1 c0_1 x1 h
theorem ok {b0_0 : Bool} {a0_1 : Option Addr} {l0_1 : Nat} {c0_1 : Nat} {x1 : Int} {h : Hp} {R : Rt} (g : t b0_0 a0_1 l0_1 c0_1 x1 h R) : HC id #[.agg #[.bool b0_0, .slice a0_1 l0_1 c0_1], .int .i64 x1] h R :=
  calls_of_den' envOk (c := C) (rs := [.cell 4 24, .tmp 5]) Tryd.func13 (by kernel_rfl) (by kernel_rfl) (by kernel_rfl) (args := [.agg #[.bool b0_0, .slice a0_1 l0_1 c0_1], .int .i64 x1]) (by kernel_rfl) (D1.ok R _ h (gAgg_intro rfl (uncons_intro (gBool_intro rfl (uncons_intro (gSlice_intro rfl (unnil_intro (gInt_intro rfl (g)))))))))
end num_FloorShr

namespace num_CeilShr
noncomputable def C : Code := bodyOf Tryd.f14
def D1.t (R : Rt) (b0_0 : Bool) (a0_1 : Option Addr) (l0_1 : Nat) (c0_1 : Nat) (x1 : Int) (h : Hp) : Prop :=
  boxK h 24 [.bool b0_0, .slice a0_1 l0_1 c0_1] fun q1 h2 =>
  boxK h2 24 T24.zs fun q3 h4 =>
  ldK h4 (q1.add 0) fun v5 =>
  gBool v5 fun b_6 =>
  ldK h4 (q1.add 1) fun v7 =>
  gSlice v7 fun a_8 l_8 c_8 =>
  HC num_way_shr.id #[.int .i64 1, .agg #[.bool b_6, .slice a_8 l_8 c_8], .int .i64 x1] h4 fun v9 h10 =>
  gTup v9 fun y11 =>
  uncons y11 fun v12 y12 =>
  gAgg v12 fun y13 =>
  uncons y13 fun v14 y14 =>
  gBool v14 fun b_15 =>
  uncons y14 fun v16 y16 =>
  gSlice v16 fun a_17 l_17 c_17 =>
  unnil y16 <| uncons y12 fun v18 y18 =>
  gInt .i64 v18 fun x_19 =>
  unnil y18 <| stK h10 (q3.add 0) (.bool b_15) fun h20 =>
  stK h20 (q3.add 1) (.slice a_17 l_17 c_17) fun h21 =>
  ldK h21 (q3.add 0) fun v22 =>
  gBool v22 fun b_23 =>
  ldK h21 (q3.add 1) fun v24 =>
  gSlice v24 fun a_25 l_25 c_25 =>
  R (.tuple #[.agg #[.bool b_23, .slice a_25 l_25 c_25], .int .i64 x_19]) h21
def D1.g (R : Rt) (fr : Fr) (h : Hp) : Prop := gAgg (fr 0) fun z0 => uncons z0 fun w0_0 z0_0 => gBool w0_0 fun b0_0 => uncons z0_0 fun w0_1 z0_1 => gSlice w0_1 fun a0_1 l0_1 c0_1 => unnil z0_1 <| gInt .i64 (fr 1) fun x1 => D1.t R b0_0 a0_1 l0_1 c0_1 x1 h
theorem D1.ok (R : Rt) (fr : Fr) (h : Hp) (g : D1.g R fr h) : den prog E C (retQ E [.cell 4 24, .tmp 5] R) fr h := by
  obtain ⟨z0, e0, g0_0⟩ := gAgg_elim' g
  obtain ⟨w0_0, z0_0, rfl, g0_0x⟩ := uncons_elim g0_0
  obtain ⟨b0_0, rfl, g0_1⟩ := gBool_elim g0_0x
  obtain ⟨w0_1, z0_1, rfl, g0_1x⟩ := uncons_elim g0_1
  obtain ⟨a0_1, l0_1, c0_1, rfl, g0_2⟩ := gSlice_elim g0_1x
  obtain ⟨rfl, g⟩ := unnil_elim g0_2
  obtain ⟨x1, e1, g⟩ := gInt_elim g
  exact den_enter [(0, .agg #[.bool b0_0, .slice a0_1 l0_1 c0_1]), (1, .int .i64 x1)] ⟨e0, e1, trivial⟩ (by kernel_rfl) g
def t (b0_0 : Bool) (a0_1 : Option Addr) (l0_1 : Nat) (c0_1 : Nat) (x1 : Int) (h : Hp) (R : Rt) : Prop := D1.t R b0_0 a0_1 l0_1 c0_1 x1 h
theorem ok {b0_0 : Bool} {a0_1 : Option Addr} {l0_1 : Nat} {c0_1 : Nat} {x1 : Int} {h : Hp} {R : Rt} (g : t b0_0 a0_1 l0_1 c0_1 x1 h R) : HC id #[.agg #[.bool b0_0, .slice a0_1 l0_1 c0_1], .int .i64 x1] h R :=
  calls_of_den' envOk (c := C) (rs := [.cell 4 24, .tmp 5]) Tryd.func14 (by kernel_rfl) (by kernel_rfl) (by kernel_rfl) (args := [.agg #[.bool b0_0, .slice a0_1 l0_1 c0_1], .int .i64 x1]) (by kernel_rfl) (D1.ok R _ h (gAgg_intro rfl (uncons_intro (gBool_intro rfl (uncons_intro (gSlice_intro rfl (unnil_intro (gInt_intro rfl (g)))))))))
end num_CeilShr

namespace num_NearShr
noncomputable def C : Code := bodyOf Tryd.f15
def D1.t (R : Rt) (b0_0 : Bool) (a0_1 : Option Addr) (l0_1 : Nat) (c0_1 : Nat) (x1 : Int) (h : Hp) : Prop :=
  boxK h 24 [.bool b0_0, .slice a0_1 l0_1 c0_1] fun q1 h2 =>
  boxK h2 24 T24.zs fun q3 h4 =>
  ldK h4 (q1.add 0) fun v5 =>
  gBool v5 fun b_6 =>
  ldK h4 (q1.add 1) fun v7 =>
  gSlice v7 fun a_8 l_8 c_8 =>
  HC num_way_shr.id #[.int .i64 2, .agg #[.bool b_6, .slice a_8 l_8 c_8], .int .i64 x1] h4 fun v9 h10 =>
  gTup v9 fun y11 =>
  uncons y11 fun v12 y12 =>
  gAgg v12 fun y13 =>
  uncons y13 fun v14 y14 =>
  gBool v14 fun b_15 =>
  uncons y14 fun v16 y16 =>
  gSlice v16 fun a_17 l_17 c_17 =>
  unnil y16 <| uncons y12 fun v18 y18 =>
  gInt .i64 v18 fun x_19 =>
  unnil y18 <| stK h10 (q3.add 0) (.bool b_15) fun h20 =>
  stK h20 (q3.add 1) (.slice a_17 l_17 c_17) fun h21 =>
  ldK h21 (q3.add 0) fun v22 =>
  gBool v22 fun b_23 =>
  ldK h21 (q3.add 1) fun v24 =>
  gSlice v24 fun a_25 l_25 c_25 =>
  R (.tuple #[.agg #[.bool b_23, .slice a_25 l_25 c_25], .int .i64 x_19]) h21
def D1.g (R : Rt) (fr : Fr) (h : Hp) : Prop := gAgg (fr 0) fun z0 => uncons z0 fun w0_0 z0_0 => gBool w0_0 fun b0_0 => uncons z0_0 fun w0_1 z0_1 => gSlice w0_1 fun a0_1 l0_1 c0_1 => unnil z0_1 <| gInt .i64 (fr 1) fun x1 => D1.t R b0_0 a0_1 l0_1 c0_1 x1 h
theorem D1.ok (R : Rt) (fr : Fr) (h : Hp) (g : D1.g R fr h) : den prog E C (retQ E [.cell 4 24, .tmp 5] R) fr h := by
  obtain ⟨z0, e0, g0_0⟩ := gAgg_elim' g
  obtain ⟨w0_0, z0_0, rfl, g0_0x⟩ := uncons_elim g0_0
  obtain ⟨b0_0, rfl, g0_1⟩ := gBool_elim g0_0x
  obtain ⟨w0_1, z0_1, rfl, g0_1x⟩ := uncons_elim g0_1
  obtain ⟨a0_1, l0_1, c0_1, rfl, g0_2⟩ := gSlice_elim g0_1x
  obtain ⟨rfl, g⟩ := unnil_elim g0_2
  obtain ⟨x1, e1, g⟩ := gInt_elim g
  exact den_enter [(0, .agg #[.bool b0_0, .slice a0_1 l0_1 c0_1]), (1, .int .i64 x1)] ⟨e0, e1, trivial⟩ (by kernel_rfl) g
def t (b0_0 : Bool) (a0_1 : Option Addr) (l0_1 : Nat) (c0_1 : Nat) (x1 : Int) (h : Hp) (R : Rt) : Prop := D1.t R b0_0 a0_1 l0_1 c0_1 x1 h
theorem ok {b0_0 : Bool} {a0_1 : Option Addr} {l0_1 : Nat} {c0_1 : Nat} {x1 : Int} {h : Hp} {R : Rt} (g : t b0_0 a0_1 l0_1 c0_1 x1 h R) : HC id #[.agg #[.bool b0_0, .slice a0_1 l0_1 c0_1], .int .i64 x1] h R :=
  calls_of_den' envOk (c := C) (rs := [.cell 4 24, .tmp 5]) Tryd.func15 (by kernel_rfl) (by kernel_rfl) (by kernel_rfl) (args := [.agg #[.bool b0_0, .slice a0_1 l0_1 c0_1], .int .i64 x1]) (by kernel_rfl) (D1.ok R _ h (gAgg_intro rfl (uncons_intro (gBool_intro rfl (uncons_intro (gSlice_intro rfl (unnil_intro (gInt_intro rfl (g)))))))))
end num_NearShr

namespace num_FloorDiv
noncomputable def C : Code := bodyOf Tryd.f16
def D1.t (R : Rt) (b0_0 : Bool) (a0_1 : Option Addr) (l0_1 : Nat) (c0_1 : Nat) (b1_0 : Bool) (a1_1 : Option Addr) (l1_1 : Nat) (c1_1 : Nat) (h : Hp) : Prop :=
  boxK h 24 [.bool b0_0, .slice a0_1 l0_1 c0_1] fun q1 h2 =>
  boxK h2 24 [.bool b1_0, .slice a1_1 l1_1 c1_1] fun q3 h4 =>
  boxK h4 24 T24.zs fun q5 h6 =>
  ldK h6 (q1.add 0) fun v7 =>
  gBool v7 fun b_8 =>
  ldK h6 (q1.add 1) fun v9 =>
  gSlice v9 fun a_10 l_10 c_10 =>
  ldK h6 (q3.add 0) fun v11 =>
  gBool v11 fun b_12 =>
  ldK h6 (q3.add 1) fun v13 =>
  gSlice v13 fun a_14 l_14 c_14 =>
  HC num_way_div.id #[.int .i64 0, .agg #[.bool b_8, .slice a_10 l_10 c_10], .agg #[.bool b_12, .slice a_14 l_14 c_14]] h6 fun v15 h16 =>
  gTup v15 fun y17 =>
  uncons y17 fun v18 y18 =>
  gAgg v18 fun y19 =>
  uncons y19 fun v20 y20 =>
  gBool v20 fun b_21 =>
  uncons y20 fun v22 y22 =>
  gSlice v22 fun a_23 l_23 c_23 =>
  unnil y22 <| uncons y18 fun v24 y24 =>
  gInt .i64 v24 fun x_25 =>
  unnil y24 <| stK h16 (q5.add 0) (.bool b_21) fun h26 =>
  stK h26 (q5.add 1) (.slice a_23 l_23 c_23) fun h27 =>
  ldK h27 (q5.add 0) fun v28 =>
  gBool v28 fun b_29 =>
  ldK h27 (q5.add 1) fun v30 =>
  gSlice v30 fun a_31 l_31 c_31 =>
  R (.tuple #[.agg #[.bool b_29, .slice a_31 l_31 c_31], .int .i64 x_25]) h27
def D1.g (R : Rt) (fr : Fr) (h : Hp) : Prop := gAgg (fr 0) fun z0 => uncons z0 fun w0_0 z0_0 => gBool w0_0 fun b0_0 => uncons z0_0 fun w0_1 z0_1 => gSlice w0_1 fun a0_1 l0_1 c0_1 => unnil z0_1 <| gAgg (fr 1) fun z1 => uncons z1 fun w1_0 z1_0 => gBool w1_0 fun b1_0 => uncons z1_0 fun w1_1 z1_1 => gSlice w1_1 fun a1_1 l1_1 c1_1 => unnil z1_1 <| D1.t R b0_0 a0_1 l0_1 c0_1 b1_0 a1_1 l1_1 c1_1 h
theorem D1.ok (R : Rt) (fr : Fr) (h : Hp) (g : D1.g R fr h) : den prog E C (retQ E [.cell 4 24, .tmp 5] R) fr h := by
  obtain ⟨z0, e0, g0_0⟩ := gAgg_elim' g
  obtain ⟨w0_0, z0_0, rfl, g0_0x⟩ := uncons_elim g0_0
  obtain ⟨b0_0, rfl, g0_1⟩ := gBool_elim g0_0x
  obtain ⟨w0_1, z0_1, rfl, g0_1x⟩ := uncons_elim g0_1
  obtain ⟨a0_1, l0_1, c0_1, rfl, g0_2⟩ := gSlice_elim g0_1x
  obtain ⟨rfl, g⟩ := unnil_elim g0_2
  obtain ⟨z1, e1, g1_0⟩ := gAgg_elim' g
  obtain ⟨w1_0, z1_0, rfl, g1_0x⟩ := uncons_elim g1_0
  obtain ⟨b1_0, rfl, g1_1⟩ := gBool_elim g1_0x
  obtain ⟨w1_1, z1_1, rfl, g1_1x⟩ := uncons_elim g1_1
  obtain ⟨a1_1, l1_1, c1_1, rfl, g1_2⟩ := gSlice_elim g1_1x
  obtain ⟨rfl, g⟩ := unnil_elim g1_2
  exact den_enter [(0, .agg #[.bool b0_0, .slice a0_1 l0_1 c0_1]), (1, .agg #[.bool b1_0, .slice a1_1 l1_1 c1_1])] ⟨e0, e1, trivial⟩ (by kernel_rfl) g
def t (b0_0 : Bool) (a0_1 : Option Addr) (l0_1 : Nat) (c0_1 : Nat) (b1_0 : Bool) (a1_1 : Option Addr) (l1_1 : Nat) (c1_1 : Nat) (h : Hp) (R : Rt) : Prop := D1.t R b0_0 a0_1 l0_1 c0_1 b1_0 a1_1 l1_1 c1_1 h
theorem ok {b0_0 : Bool} {a0_1 : Option Addr} {l0_1 : Nat} {c0_1 : Nat} {b1_0 : Bool} {a1_1 : Option Addr} {l1_1 : Nat} {c1_1 : Nat} {h : Hp} {R : Rt} (g : t b0_0 a0_1 l0_1 c0_1 b1_0 a1_1 l1_1 c1_1 h R) : HC id #[.agg #[.bool b0_0, .slice a0_1 l0_1 c0_1], .agg #[.bool b1_0, .slice a1_1 l1_1 c1_1]] h R :=
  calls_of_den' envOk (c := C) (rs := [.cell 4 24, .tmp 5]) Tryd.func16 (by kernel_rfl) (by kernel_rfl) (by kernel_rfl) (args := [.agg #[.bool b0_0, .slice a0_1 l0_1 c0_1], .agg #[.bool b1_0, .slice a1_1 l1_1 c1_1]]) (by kernel_rfl) (D1.ok R _ h (gAgg_intro rfl (uncons_intro (gBool_intro rfl (uncons_intro (gSlice_intro rfl (unnil_intro (gAgg_intro rfl (uncons_intro (gBool_intro rfl (uncons_intro (gSlice_intro rfl (unnil_intro (g))))))))))))))
end num_FloorDiv

namespace num_CeilDiv
noncomputable def C : Code := bodyOf Tryd.f17
def D1.t (R : Rt) (b0_0 : Bool) (a0_1 : Option Addr) (l0_1 : Nat) (c0_1 : Nat) (b1_0 : Bool) (a1_1 : Option Addr) (l1_1 : Nat) (c1_1 : Nat) (h : Hp) : Prop :=
  boxK h 24 [.bool b0_0, .slice a0_1 l0_1 c0_1] fun q1 h2 =>
  boxK h2 24 [.bool b1_0, .slice a1_1 l1_1 c1_1] fun q3 h4 =>
  boxK h4 24 T24.zs fun q5 h6 =>
  ldK h6 (q1.add 0) fun v7 =>
  gBool v7 fun b_8 =>
  ldK h6 (q1.add 1) fun v9 =>
  gSlice v9 fun a_10 l_10 c_10 =>
  ldK h6 (q3.add 0) fun v11 =>
  gBool v11 fun b_12 =>
  ldK h6 (q3.add 1) fun v13 =>
  gSlice v13 fun a_14 l_14 c_14 =>
  HC num_way_div.id #[.int .i64 1, .agg #[.bool b_8, .slice a_10 l_10 c_10], .agg #[.bool b_12, .slice a_14 l_14 c_14]] h6 fun v15 h16 =>
  gTup v15 fun y17 =>
  uncons y17 fun v18 y18 =>
  gAgg v18 fun y19 =>
  uncons y19 fun v20 y20 =>
  gBool v20 fun b_21 =>
  uncons y20 fun v22 y22 =>
  gSlice v22 fun a_23 l_23 c_23 =>
  unnil y22 <| uncons y18 fun v24 y24 =>
  gInt .i64 v24 fun x_25 =>
  unnil y24 <| stK h16 (q5.add 0) (.bool b_21) fun h26 =>
  stK h26 (q5.add 1) (.slice a_23 l_23 c_23) fun h27 =>
  ldK h27 (q5.add 0) fun v28 =>
  gBool v28 fun b_29 =>
  ldK h27 (q5.add 1) fun v30 =>
  gSlice v30 fun a_31 l_31 c_31 =>
  R (.tuple #[.agg #[.bool b_29, .slice a_31 l_31 c_31], .int .i64 x_25]) h27
def D1.g (R : Rt) (fr : Fr) (h : Hp) : Prop := gAgg (fr 0) fun z0 => uncons z0 fun w0_0 z0_0 => gBool w0_0 fun b0_0 => uncons z0_0 fun w0_1 z0_1 => gSlice w0_1 fun a0_1 l0_1 c0_1 => unnil z0_1 <| gAgg (fr 1) fun z1 => uncons z1 fun w1_0 z1_0 => gBool w1_0 fun b1_0 => uncons z1_0 fun w1_1 z1_1 => gSlice w1_1 fun a1_1 l1_1 c1_1 => unnil z1_1 <| D1.t R b0_0 a0_1 l0_1 c0_1 b1_0 a1_1 l1_1 c1_1 h
theorem D1.ok (R : Rt) (fr : Fr) (h : Hp) (g : D1.g R fr h) : den prog E C (retQ E [.cell 4 24, .tmp 5] R) fr h := by
  obtain ⟨z0, e0, g0_0⟩ := gAgg_elim' g
  obtain ⟨w0_0, z0_0, rfl, g0_0x⟩ := uncons_elim g0_0
  obtain ⟨b0_0, rfl, g0_1⟩ := gBool_elim g0_0x
  obtain ⟨w0_1, z0_1, rfl, g0_1x⟩ := uncons_elim g0_1
  obtain ⟨a0_1, l0_1, c0_1, rfl, g0_2⟩ := gSlice_elim g0_1x
  obtain ⟨rfl, g⟩ := unnil_elim g0_2
  obtain ⟨z1, e1, g1_0⟩ := gAgg_elim' g
  obtain ⟨w1_0, z1_0, rfl, g1_0x⟩ := uncons_elim g1_0
  obtain ⟨b1_0, rfl, g1_1⟩ := gBool_elim g1_0x
  obtain ⟨w1_1, z1_1, rfl, g1_1x⟩ := uncons_elim g1_1
  obtain ⟨a1_1, l1_1, c1_1, rfl, g1_2⟩ := gSlice_elim g1_1x
  obtain ⟨rfl, g⟩ := unnil_elim g1_2
  exact den_enter [(0, .agg #[.bool b0_0, .slice a0_1 l0_1 c0_1]), (1, .agg #[.bool b1_0, .slice a1_1 l1_1 c1_1])] ⟨e0, e1, trivial⟩ (by kernel_rfl) g
def t (b0_0 : Bool) (a0_1 : Option Addr) (l0_1 : Nat) (c0_1 : Nat) (b1_0 : Bool) (a1_1 : Option Addr) (l1_1 : Nat) (c1_1 : Nat) (h : Hp) (R : Rt) : Prop := D1.t R b0_0 a0_1 l0_1 c0_1 b1_0 a1_1 l1_1 c1_1 h
theorem ok {b0_0 : Bool} {a0_1 : Option Addr} {l0_1 : Nat} {c0_1 : Nat} {b1_0 : Bool} {a1_1 : Option Addr} {l1_1 : Nat} {c1_1 : Nat} {h : Hp} {R : Rt} (g : t b0_0 a0_1 l0_1 c0_1 b1_0 a1_1 l1_1 c1_1 h R) : HC id #[.agg #[.bool b0_0, .slice a0_1 l0_1 c0_1], .agg #[.bool b1_0, .slice a1_1 l1_1 c1_1]] h R :=
  calls_of_den' envOk (c := C) (rs := [.cell 4 24, .tmp 5]) Tryd.func17 (by kernel_rfl) (by kernel_rfl) (by kernel_rfl) (args := [.agg #[.bool b0_0, .slice a0_1 l0_1 c0_1], .agg #[.bool b1_0, .slice a1_1 l1_1 c1_1]]) (by kernel_rfl) (D1.ok R _ h (gAgg_intro rfl (uncons_intro (gBool_intro rfl (uncons_intro (gSlice_intro rfl (unnil_intro (gAgg_intro rfl (uncons_intro (gBool_intro rfl (uncons_intro (gSlice_intro rfl (unnil_intro (g))))))))))))))
end num_CeilDiv

namespace num_Of
noncomputable def C : Code := bodyOf Tryd.f18
def D1.t (R : Rt) (x0 : Int) (h : Hp) : Prop :=
  boxK h 24 T24.zs fun q1 h2 =>
  cond (decide (x0 < 0)) (letK (IntKind.u64.wrap x0) fun n3 =>
  letK (IntKind.u64.wrap (0 - n3)) fun n4 =>
  HC nat_Word.id #[.int .u64 n4] h2 fun v5 h6 =>
  gSlice v5 fun a_7 l_7 c_7 =>
  HC num_whole.id #[.bool true, .slice a_7 l_7 c_7] h6 fun v8 h9 =>
  gAgg v8 fun y10 =>
  uncons y10 fun v11 y11 =>
  gBool v11 fun b_12 =>
  uncons y11 fun v13 y13 =>
  gSlice v13 fun a_14 l_14 c_14 =>
  unnil y13 <| stK h9 (q1.add 0) (.bool b_12) fun h15 =>
  stK h15 (q1.add 1) (.slice a_14 l_14 c_14) fun h16 =>
  ldK h16 (q1.add 0) fun v17 =>
  gBool v17 fun b_18 =>
  ldK h16 (q1.add 1) fun v19 =>
  gSlice v19 fun a_20 l_20 c_20 =>
  R (.agg #[.bool b_18, .slice a_20 l_20 c_20]) h16) (letK (IntKind.u64.wrap x0) fun n21 =>
  HC nat_Word.id #[.int .u64 n21] h2 fun v22 h23 =>
  gSlice v22 fun a_24 l_24 c_24 =>
  HC num_whole.id #[.bool false, .slice a_24 l_24 c_24] h23 fun v25 h26 =>
  gAgg v25 fun y27 =>
  uncons y27 fun v28 y28 =>
  gBool v28 fun b_29 =>
  uncons y28 fun v30 y30 =>
  gSlice v30 fun a_31 l_31 c_31 =>
  unnil y30 <| stK h26 (q1.add 0) (.bool b_29) fun h32 =>
  stK h32 (q1.add 1) (.slice a_31 l_31 c_31) fun h33 =>
  ldK h33 (q1.add 0) fun v34 =>
  gBool v34 fun b_35 =>
  ldK h33 (q1.add 1) fun v36 =>
  gSlice v36 fun a_37 l_37 c_37 =>
  R (.agg #[.bool b_35, .slice a_37 l_37 c_37]) h33)
def D1.g (R : Rt) (fr : Fr) (h : Hp) : Prop := gInt .i64 (fr 0) fun x0 => D1.t R x0 h
theorem D1.ok (R : Rt) (fr : Fr) (h : Hp) (g : D1.g R fr h) : den prog E C (retQ E [.cell 2 24] R) fr h := by
  obtain ⟨x0, e0, g⟩ := gInt_elim g
  exact den_enter [(0, .int .i64 x0)] ⟨e0, trivial⟩ (by kernel_rfl) g
def t (x0 : Int) (h : Hp) (R : Rt) : Prop := D1.t R x0 h
theorem ok {x0 : Int} {h : Hp} {R : Rt} (g : t x0 h R) : HC id #[.int .i64 x0] h R :=
  calls_of_den' envOk (c := C) (rs := [.cell 2 24]) Tryd.func18 (by kernel_rfl) (by kernel_rfl) (by kernel_rfl) (args := [.int .i64 x0]) (by kernel_rfl) (D1.ok R _ h (gInt_intro rfl (g)))
end num_Of

namespace num_Small
noncomputable def C : Code := bodyOf Tryd.f19
def D2.t (R : Rt) (q1 : Addr) (x4 : Int) (h : Hp) : Prop :=
  ldK h (q1.add 0) fun v21 =>
  gBool v21 fun b_22 =>
  cond b_22 (letK (IntKind.u64.wrap (0 - x4)) fun n23 =>
  letK (IntKind.i64.wrap n23) fun n24 =>
  R (.tuple #[.int .i64 n24, .int .i64 0]) h) (letK (IntKind.i64.wrap x4) fun n25 =>
  R (.tuple #[.int .i64 n25, .int .i64 0]) h)
def D2.g (R : Rt) (fr : Fr) (h : Hp) : Prop := gPtrS (fr 1) fun q1 => gInt .u64 (fr 4) fun x4 => D2.t R q1 x4 h
theorem D2.ok (R : Rt) (fr : Fr) (h : Hp) (g : D2.g R fr h) : den prog E (cAt C [true, true, true, true, true]) (retQ E [.tmp 2, .tmp 3] R) fr h := by
  obtain ⟨q1, e1, g⟩ := gPtrS_elim g
  obtain ⟨x4, e4, g⟩ := gInt_elim g
  exact den_enter [(1, .pointer (some q1)), (4, .int .u64 x4)] ⟨e1, e4, trivial⟩ (by kernel_rfl) g
def D1.t (R : Rt) (b0_0 : Bool) (a0_1 : Option Addr) (l0_1 : Nat) (c0_1 : Nat) (h : Hp) : Prop :=
  boxK h 24 [.bool b0_0, .slice a0_1 l0_1 c0_1] fun q1 h2 =>
  ldK h2 (q1.add 0) fun v3 =>
  gBool v3 fun b_4 =>
  ldK h2 (q1.add 1) fun v5 =>
  gSlice v5 fun a_6 l_6 c_6 =>
  HC num_Form.id #[.agg #[.bool b_4, .slice a_6 l_6 c_6]] h2 fun v7 h8 =>
  gBool v7 fun b_9 =>
  cond (!b_9) (R (.tuple #[.int .i64 0, .int .i64 2]) h8) (ldK h8 (q1.add 1) fun v10 =>
  gSlice v10 fun a_11 l_11 c_11 =>
  cond ((((l_11 : Nat) : Int)) == 0) (R (.tuple #[.int .i64 0, .int .i64 0]) h8) (ldK h8 (q1.add 1) fun v12 =>
  gSlice v12 fun a_13 l_13 c_13 =>
  idxK a_13 l_13 0 1 fun q14 =>
  ldK h8 q14 fun v15 =>
  gInt .u64 v15 fun x_16 =>
  ldK h8 (q1.add 1) fun v17 =>
  gSlice v17 fun a_18 l_18 c_18 =>
  cond (decide ((((l_18 : Nat) : Int)) > 1)) (R (.tuple #[.int .i64 0, .int .i64 5]) h8) (cond (decide (x_16 > 9223372036854775808)) (R (.tuple #[.int .i64 0, .int .i64 5]) h8) (cond (x_16 == 9223372036854775808) (ldK h8 (q1.add 0) fun v19 =>
  gBool v19 fun b_20 =>
  cond (!b_20) (R (.tuple #[.int .i64 0, .int .i64 5]) h8) (D2.t R q1 x_16 h8)) (D2.t R q1 x_16 h8)))))
def D1.g (R : Rt) (fr : Fr) (h : Hp) : Prop := gAgg (fr 0) fun z0 => uncons z0 fun w0_0 z0_0 => gBool w0_0 fun b0_0 => uncons z0_0 fun w0_1 z0_1 => gSlice w0_1 fun a0_1 l0_1 c0_1 => unnil z0_1 <| D1.t R b0_0 a0_1 l0_1 c0_1 h
theorem D1.ok (R : Rt) (fr : Fr) (h : Hp) (g : D1.g R fr h) : den prog E C (retQ E [.tmp 2, .tmp 3] R) fr h := by
  obtain ⟨z0, e0, g0_0⟩ := gAgg_elim' g
  obtain ⟨w0_0, z0_0, rfl, g0_0x⟩ := uncons_elim g0_0
  obtain ⟨b0_0, rfl, g0_1⟩ := gBool_elim g0_0x
  obtain ⟨w0_1, z0_1, rfl, g0_1x⟩ := uncons_elim g0_1
  obtain ⟨a0_1, l0_1, c0_1, rfl, g0_2⟩ := gSlice_elim g0_1x
  obtain ⟨rfl, g⟩ := unnil_elim g0_2
  exact den_cut 5 (r := (cAt C [true, true, true, true, true])) (by kernel_rfl) (D2.ok R) (den_enter [(0, .agg #[.bool b0_0, .slice a0_1 l0_1 c0_1])] ⟨e0, trivial⟩ (by kernel_rfl) g)
def t (b0_0 : Bool) (a0_1 : Option Addr) (l0_1 : Nat) (c0_1 : Nat) (h : Hp) (R : Rt) : Prop := D1.t R b0_0 a0_1 l0_1 c0_1 h
theorem ok {b0_0 : Bool} {a0_1 : Option Addr} {l0_1 : Nat} {c0_1 : Nat} {h : Hp} {R : Rt} (g : t b0_0 a0_1 l0_1 c0_1 h R) : HC id #[.agg #[.bool b0_0, .slice a0_1 l0_1 c0_1]] h R :=
  calls_of_den' envOk (c := C) (rs := [.tmp 2, .tmp 3]) Tryd.func19 (by kernel_rfl) (by kernel_rfl) (by kernel_rfl) (args := [.agg #[.bool b0_0, .slice a0_1 l0_1 c0_1]]) (by kernel_rfl) (D1.ok R _ h (gAgg_intro rfl (uncons_intro (gBool_intro rfl (uncons_intro (gSlice_intro rfl (unnil_intro (g))))))))
end num_Small

namespace num_Form
noncomputable def C : Code := bodyOf Tryd.f20
def D1.t (R : Rt) (b0_0 : Bool) (a0_1 : Option Addr) (l0_1 : Nat) (c0_1 : Nat) (h : Hp) : Prop :=
  boxK h 24 [.bool b0_0, .slice a0_1 l0_1 c0_1] fun q1 h2 =>
  ldK h2 (q1.add 1) fun v3 =>
  gSlice v3 fun a_4 l_4 c_4 =>
  HC nat_Form.id #[.slice a_4 l_4 c_4] h2 fun v5 h6 =>
  gBool v5 fun b_7 =>
  cond b_7 (ldK h6 (q1.add 0) fun v8 =>
  gBool v8 fun b_9 =>
  cond b_9 (ldK h6 (q1.add 1) fun v10 =>
  gSlice v10 fun a_11 l_11 c_11 =>
  R (.bool (!((((l_11 : Nat) : Int)) == 0))) h6) (R (.bool (!false)) h6)) (R (.bool false) h6)
def D1.g (R : Rt) (fr : Fr) (h : Hp) : Prop := gAgg (fr 0) fun z0 => uncons z0 fun w0_0 z0_0 => gBool w0_0 fun b0_0 => uncons z0_0 fun w0_1 z0_1 => gSlice w0_1 fun a0_1 l0_1 c0_1 => unnil z0_1 <| D1.t R b0_0 a0_1 l0_1 c0_1 h
theorem D1.ok (R : Rt) (fr : Fr) (h : Hp) (g : D1.g R fr h) : den prog E C (retQ E [.tmp 2] R) fr h := by
  obtain ⟨z0, e0, g0_0⟩ := gAgg_elim' g
  obtain ⟨w0_0, z0_0, rfl, g0_0x⟩ := uncons_elim g0_0
  obtain ⟨b0_0, rfl, g0_1⟩ := gBool_elim g0_0x
  obtain ⟨w0_1, z0_1, rfl, g0_1x⟩ := uncons_elim g0_1
  obtain ⟨a0_1, l0_1, c0_1, rfl, g0_2⟩ := gSlice_elim g0_1x
  obtain ⟨rfl, g⟩ := unnil_elim g0_2
  exact den_enter [(0, .agg #[.bool b0_0, .slice a0_1 l0_1 c0_1])] ⟨e0, trivial⟩ (by kernel_rfl) g
def t (b0_0 : Bool) (a0_1 : Option Addr) (l0_1 : Nat) (c0_1 : Nat) (h : Hp) (R : Rt) : Prop := D1.t R b0_0 a0_1 l0_1 c0_1 h
theorem ok {b0_0 : Bool} {a0_1 : Option Addr} {l0_1 : Nat} {c0_1 : Nat} {h : Hp} {R : Rt} (g : t b0_0 a0_1 l0_1 c0_1 h R) : HC id #[.agg #[.bool b0_0, .slice a0_1 l0_1 c0_1]] h R :=
  calls_of_den' envOk (c := C) (rs := [.tmp 2]) Tryd.func20 (by kernel_rfl) (by kernel_rfl) (by kernel_rfl) (args := [.agg #[.bool b0_0, .slice a0_1 l0_1 c0_1]]) (by kernel_rfl) (D1.ok R _ h (gAgg_intro rfl (uncons_intro (gBool_intro rfl (uncons_intro (gSlice_intro rfl (unnil_intro (g))))))))
end num_Form

namespace num_Cmp
noncomputable def C : Code := bodyOf Tryd.f21
def D3.t (R : Rt) (q2 : Addr) (q3 : Addr) (h : Hp) : Prop :=
  ldK h (q2.add 1) fun v36 =>
  gSlice v36 fun a_37 l_37 c_37 =>
  ldK h (q3.add 1) fun v38 =>
  gSlice v38 fun a_39 l_39 c_39 =>
  HC nat_Cmp.id #[.slice a_37 l_37 c_37, .slice a_39 l_39 c_39] h fun v40 h41 =>
  gInt .i64 v40 fun x_42 =>
  R (.tuple #[.int .i64 x_42, .int .i64 0]) h41
def D3.g (R : Rt) (fr : Fr) (h : Hp) : Prop := gPtrS (fr 2) fun q2 => gPtrS (fr 3) fun q3 => D3.t R q2 q3 h
theorem D3.ok (R : Rt) (fr : Fr) (h : Hp) (g : D3.g R fr h) : den prog E (cAt C [true, true, true]) (retQ E [.tmp 4, .tmp 5] R) fr h := by
  obtain ⟨q2, e2, g⟩ := gPtrS_elim g
  obtain ⟨q3, e3, g⟩ := gPtrS_elim g
  exact den_enter [(2, .pointer (some q2)), (3, .pointer (some q3))] ⟨e2, e3, trivial⟩ (by kernel_rfl) g
def D2.t (R : Rt) (q2 : Addr) (q3 : Addr) (h : Hp) : Prop :=
  ldK h (q2.add 0) fun v19 =>
  gBool v19 fun b_20 =>
  cond b_20 (ldK h (q3.add 0) fun v21 =>
  gBool v21 fun b_22 =>
  cond (!b_22) (R (.tuple #[.int .i64 (-1), .int .i64 0]) h) (ldK h (q2.add 0) fun v23 =>
  gBool v23 fun b_24 =>
  cond (!b_24) (ldK h (q3.add 0) fun v25 =>
  gBool v25 fun b_26 =>
  cond b_26 (R (.tuple #[.int .i64 1, .int .i64 0]) h) (ldK h (q2.add 0) fun v27 =>
  gBool v27 fun b_28 =>
  cond b_28 (ldK h (q3.add 1) fun v29 =>
  gSlice v29 fun a_30 l_30 c_30 =>
  ldK h (q2.add 1) fun v31 =>
  gSlice v31 fun a_32 l_32 c_32 =>
  HC nat_Cmp.id #[.slice a_30 l_30 c_30, .slice a_32 l_32 c_32] h fun v33 h34 =>
  gInt .i64 v33 fun x_35 =>
  R (.tuple #[.int .i64 x_35, .int .i64 0]) h34) (D3.t R q2 q3 h))) (ldK h (q2.add 0) fun v43 =>
  gBool v43 fun b_44 =>
  cond b_44 (ldK h (q3.add 1) fun v45 =>
  gSlice v45 fun a_46 l_46 c_46 =>
  ldK h (q2.add 1) fun v47 =>
  gSlice v47 fun a_48 l_48 c_48 =>
  HC nat_Cmp.id #[.slice a_46 l_46 c_46, .slice a_48 l_48 c_48] h fun v49 h50 =>
  gInt .i64 v49 fun x_51 =>
  R (.tuple #[.int .i64 x_51, .int .i64 0]) h50) (D3.t R q2 q3 h)))) (ldK h (q2.add 0) fun v52 =>
  gBool v52 fun b_53 =>
  cond (!b_53) (ldK h (q3.add 0) fun v54 =>
  gBool v54 fun b_55 =>
  cond b_55 (R (.tuple #[.int .i64 1, .int .i64 0]) h) (ldK h (q2.add 0) fun v56 =>
  gBool v56 fun b_57 =>
  cond b_57 (ldK h (q3.add 1) fun v58 =>
  gSlice v58 fun a_59 l_59 c_59 =>
  ldK h (q2.add 1) fun v60 =>
  gSlice v60 fun a_61 l_61 c_61 =>
  HC nat_Cmp.id #[.slice a_59 l_59 c_59, .slice a_61 l_61 c_61] h fun v62 h63 =>
  gInt .i64 v62 fun x_64 =>
  R (.tuple #[.int .i64 x_64, .int .i64 0]) h63) (D3.t R q2 q3 h))) (ldK h (q2.add 0) fun v65 =>
  gBool v65 fun b_66 =>
  cond b_66 (ldK h (q3.add 1) fun v67 =>
  gSlice v67 fun a_68 l_68 c_68 =>
  ldK h (q2.add 1) fun v69 =>
  gSlice v69 fun a_70 l_70 c_70 =>
  HC nat_Cmp.id #[.slice a_68 l_68 c_68, .slice a_70 l_70 c_70] h fun v71 h72 =>
  gInt .i64 v71 fun x_73 =>
  R (.tuple #[.int .i64 x_73, .int .i64 0]) h72) (D3.t R q2 q3 h)))
def D2.g (R : Rt) (fr : Fr) (h : Hp) : Prop := gPtrS (fr 2) fun q2 => gPtrS (fr 3) fun q3 => D2.t R q2 q3 h
theorem D2.ok (R : Rt) (fr : Fr) (h : Hp) (g : D2.g R fr h) : den prog E (cAt C [true, true]) (retQ E [.tmp 4, .tmp 5] R) fr h := by
  obtain ⟨q2, e2, g⟩ := gPtrS_elim g
  obtain ⟨q3, e3, g⟩ := gPtrS_elim g
  exact den_cut 1 (r := (cAt C [true, true, true])) (by kernel_rfl) (D3.ok R) (den_enter [(2, .pointer (some q2)), (3, .pointer (some q3))] ⟨e2, e3, trivial⟩ (by kernel_rfl) g)
def D1.t (R : Rt) (b0_0 : Bool) (a0_1 : Option Addr) (l0_1 : Nat) (c0_1 : Nat) (b1_0 : Bool) (a1_1 : Option Addr) (l1_1 : Nat) (c1_1 : Nat) (h : Hp) : Prop :=
  boxK h 24 [.bool b0_0, .slice a0_1 l0_1 c0_1] fun q1 h2 =>
  boxK h2 24 [.bool b1_0, .slice a1_1 l1_1 c1_1] fun q3 h4 =>
  ldK h4 (q1.add 0) fun v5 =>
  gBool v5 fun b_6 =>
  ldK h4 (q1.add 1) fun v7 =>
  gSlice v7 fun a_8 l_8 c_8 =>
  HC num_Form.id #[.agg #[.bool b_6, .slice a_8 l_8 c_8]] h4 fun v9 h10 =>
  gBool v9 fun b_11 =>
  cond (!b_11) (R (.tuple #[.int .i64 0, .int .i64 2]) h10) (ldK h10 (q3.add 0) fun v12 =>
  gBool v12 fun b_13 =>
  ldK h10 (q3.add 1) fun v14 =>
  gSlice v14 fun a_15 l_15 c_15 =>
  HC num_Form.id #[.agg #[.bool b_13, .slice a_15 l_15 c_15]] h10 fun v16 h17 =>
  gBool v16 fun b_18 =>
  cond (!b_18) (R (.tuple #[.int .i64 0, .int .i64 2]) h17) (D2.t R q1 q3 h17))
def D1.g (R : Rt) (fr : Fr) (h : Hp) : Prop := gAgg (fr 0) fun z0 => uncons z0 fun w0_0 z0_0 => gBool w0_0 fun b0_0 => uncons z0_0 fun w0_1 z0_1 => gSlice w0_1 fun a0_1 l0_1 c0_1 => unnil z0_1 <| gAgg (fr 1) fun z1 => uncons z1 fun w1_0 z1_0 => gBool w1_0 fun b1_0 => uncons z1_0 fun w1_1 z1_1 => gSlice w1_1 fun a1_1 l1_1 c1_1 => unnil z1_1 <| D1.t R b0_0 a0_1 l0_1 c0_1 b1_0 a1_1 l1_1 c1_1 h
theorem D1.ok (R : Rt) (fr : Fr) (h : Hp) (g : D1.g R fr h) : den prog E C (retQ E [.tmp 4, .tmp 5] R) fr h := by
  obtain ⟨z0, e0, g0_0⟩ := gAgg_elim' g
  obtain ⟨w0_0, z0_0, rfl, g0_0x⟩ := uncons_elim g0_0
  obtain ⟨b0_0, rfl, g0_1⟩ := gBool_elim g0_0x
  obtain ⟨w0_1, z0_1, rfl, g0_1x⟩ := uncons_elim g0_1
  obtain ⟨a0_1, l0_1, c0_1, rfl, g0_2⟩ := gSlice_elim g0_1x
  obtain ⟨rfl, g⟩ := unnil_elim g0_2
  obtain ⟨z1, e1, g1_0⟩ := gAgg_elim' g
  obtain ⟨w1_0, z1_0, rfl, g1_0x⟩ := uncons_elim g1_0
  obtain ⟨b1_0, rfl, g1_1⟩ := gBool_elim g1_0x
  obtain ⟨w1_1, z1_1, rfl, g1_1x⟩ := uncons_elim g1_1
  obtain ⟨a1_1, l1_1, c1_1, rfl, g1_2⟩ := gSlice_elim g1_1x
  obtain ⟨rfl, g⟩ := unnil_elim g1_2
  exact den_cut 2 (r := (cAt C [true, true])) (by kernel_rfl) (D2.ok R) (den_enter [(0, .agg #[.bool b0_0, .slice a0_1 l0_1 c0_1]), (1, .agg #[.bool b1_0, .slice a1_1 l1_1 c1_1])] ⟨e0, e1, trivial⟩ (by kernel_rfl) g)
def t (b0_0 : Bool) (a0_1 : Option Addr) (l0_1 : Nat) (c0_1 : Nat) (b1_0 : Bool) (a1_1 : Option Addr) (l1_1 : Nat) (c1_1 : Nat) (h : Hp) (R : Rt) : Prop := D1.t R b0_0 a0_1 l0_1 c0_1 b1_0 a1_1 l1_1 c1_1 h
theorem ok {b0_0 : Bool} {a0_1 : Option Addr} {l0_1 : Nat} {c0_1 : Nat} {b1_0 : Bool} {a1_1 : Option Addr} {l1_1 : Nat} {c1_1 : Nat} {h : Hp} {R : Rt} (g : t b0_0 a0_1 l0_1 c0_1 b1_0 a1_1 l1_1 c1_1 h R) : HC id #[.agg #[.bool b0_0, .slice a0_1 l0_1 c0_1], .agg #[.bool b1_0, .slice a1_1 l1_1 c1_1]] h R :=
  calls_of_den' envOk (c := C) (rs := [.tmp 4, .tmp 5]) Tryd.func21 (by kernel_rfl) (by kernel_rfl) (by kernel_rfl) (args := [.agg #[.bool b0_0, .slice a0_1 l0_1 c0_1], .agg #[.bool b1_0, .slice a1_1 l1_1 c1_1]]) (by kernel_rfl) (D1.ok R _ h (gAgg_intro rfl (uncons_intro (gBool_intro rfl (uncons_intro (gSlice_intro rfl (unnil_intro (gAgg_intro rfl (uncons_intro (gBool_intro rfl (uncons_intro (gSlice_intro rfl (unnil_intro (g))))))))))))))
end num_Cmp

namespace num_Add
noncomputable def C : Code := bodyOf Tryd.f22
def D3.t (R : Rt) (q2 : Addr) (q3 : Addr) (q4 : Addr) (h : Hp) : Prop :=
  ldK h (q2.add 1) fun v86 =>
  gSlice v86 fun a_87 l_87 c_87 =>
  ldK h (q3.add 1) fun v88 =>
  gSlice v88 fun a_89 l_89 c_89 =>
  HC nat_Sub.id #[.slice a_87 l_87 c_87, .slice a_89 l_89 c_89] h fun v90 h91 =>
  gTup v90 fun y92 =>
  uncons y92 fun v93 y93 =>
  gSlice v93 fun a_94 l_94 c_94 =>
  uncons y93 fun v95 y95 =>
  gInt .i64 v95 fun x_96 =>
  unnil y95 <| ldK h91 (q2.add 0) fun v97 =>
  gBool v97 fun b_98 =>
  HC num_told.id #[.bool b_98, .slice a_94 l_94 c_94, .int .i64 x_96] h91 fun v99 h100 =>
  gTup v99 fun y101 =>
  uncons y101 fun v102 y102 =>
  gAgg v102 fun y103 =>
  uncons y103 fun v104 y104 =>
  gBool v104 fun b_105 =>
  uncons y104 fun v106 y106 =>
  gSlice v106 fun a_107 l_107 c_107 =>
  unnil y106 <| uncons y102 fun v108 y108 =>
  gInt .i64 v108 fun x_109 =>
  unnil y108 <| stK h100 (q4.add 0) (.bool b_105) fun h110 =>
  stK h110 (q4.add 1) (.slice a_107 l_107 c_107) fun h111 =>
  ldK h111 (q4.add 0) fun v112 =>
  gBool v112 fun b_113 =>
  ldK h111 (q4.add 1) fun v114 =>
  gSlice v114 fun a_115 l_115 c_115 =>
  R (.tuple #[.agg #[.bool b_113, .slice a_115 l_115 c_115], .int .i64 x_109]) h111
def D3.g (R : Rt) (fr : Fr) (h : Hp) : Prop := gPtrS (fr 2) fun q2 => gPtrS (fr 3) fun q3 => gPtrS (fr 4) fun q4 => D3.t R q2 q3 q4 h
theorem D3.ok (R : Rt) (fr : Fr) (h : Hp) (g : D3.g R fr h) : den prog E (cAt C [true, true, true, true]) (retQ E [.cell 4 24, .tmp 5] R) fr h := by
  obtain ⟨q2, e2, g⟩ := gPtrS_elim g
  obtain ⟨q3, e3, g⟩ := gPtrS_elim g
  obtain ⟨q4, e4, g⟩ := gPtrS_elim g
  exact den_enter [(2, .pointer (some q2)), (3, .pointer (some q3)), (4, .pointer (some q4))] ⟨e2, e3, e4, trivial⟩ (by kernel_rfl) g
def D2.t (R : Rt) (q2 : Addr) (q3 : Addr) (q4 : Addr) (h : Hp) : Prop :=
  ldK h (q2.add 0) fun v33 =>
  gBool v33 fun b_34 =>
  ldK h (q3.add 0) fun v35 =>
  gBool v35 fun b_36 =>
  cond (b_34 == b_36) (ldK h (q2.add 1) fun v37 =>
  gSlice v37 fun a_38 l_38 c_38 =>
  ldK h (q3.add 1) fun v39 =>
  gSlice v39 fun a_40 l_40 c_40 =>
  HC nat_Add.id #[.slice a_38 l_38 c_38, .slice a_40 l_40 c_40] h fun v41 h42 =>
  gTup v41 fun y43 =>
  uncons y43 fun v44 y44 =>
  gSlice v44 fun a_45 l_45 c_45 =>
  uncons y44 fun v46 y46 =>
  gInt .i64 v46 fun x_47 =>
  unnil y46 <| ldK h42 (q2.add 0) fun v48 =>
  gBool v48 fun b_49 =>
  HC num_told.id #[.bool b_49, .slice a_45 l_45 c_45, .int .i64 x_47] h42 fun v50 h51 =>
  gTup v50 fun y52 =>
  uncons y52 fun v53 y53 =>
  gAgg v53 fun y54 =>
  uncons y54 fun v55 y55 =>
  gBool v55 fun b_56 =>
  uncons y55 fun v57 y57 =>
  gSlice v57 fun a_58 l_58 c_58 =>
  unnil y57 <| uncons y53 fun v59 y59 =>
  gInt .i64 v59 fun x_60 =>
  unnil y59 <| stK h51 (q4.add 0) (.bool b_56) fun h61 =>
  stK h61 (q4.add 1) (.slice a_58 l_58 c_58) fun h62 =>
  ldK h62 (q4.add 0) fun v63 =>
  gBool v63 fun b_64 =>
  ldK h62 (q4.add 1) fun v65 =>
  gSlice v65 fun a_66 l_66 c_66 =>
  R (.tuple #[.agg #[.bool b_64, .slice a_66 l_66 c_66], .int .i64 x_60]) h62) (ldK h (q2.add 1) fun v67 =>
  gSlice v67 fun a_68 l_68 c_68 =>
  ldK h (q3.add 1) fun v69 =>
  gSlice v69 fun a_70 l_70 c_70 =>
  HC nat_Cmp.id #[.slice a_68 l_68 c_68, .slice a_70 l_70 c_70] h fun v71 h72 =>
  gInt .i64 v71 fun x_73 =>
  cond (decide (x_73 < 0)) (ldK h72 (q3.add 0) fun v74 =>
  gBool v74 fun b_75 =>
  ldK h72 (q3.add 1) fun v76 =>
  gSlice v76 fun a_77 l_77 c_77 =>
  ldK h72 (q2.add 0) fun v78 =>
  gBool v78 fun b_79 =>
  ldK h72 (q2.add 1) fun v80 =>
  gSlice v80 fun a_81 l_81 c_81 =>
  stK h72 (q2.add 0) (.bool b_75) fun h82 =>
  stK h82 (q2.add 1) (.slice a_77 l_77 c_77) fun h83 =>
  stK h83 (q3.add 0) (.bool b_79) fun h84 =>
  stK h84 (q3.add 1) (.slice a_81 l_81 c_81) fun h85 =>
  D3.t R q2 q3 q4 h85) (D3.t R q2 q3 q4 h72))
def D2.g (R : Rt) (fr : Fr) (h : Hp) : Prop := gPtrS (fr 2) fun q2 => gPtrS (fr 3) fun q3 => gPtrS (fr 4) fun q4 => D2.t R q2 q3 q4 h
theorem D2.ok (R : Rt) (fr : Fr) (h : Hp) (g : D2.g R fr h) : den prog E (cAt C [true, true]) (retQ E [.cell 4 24, .tmp 5] R) fr h := by
  obtain ⟨q2, e2, g⟩ := gPtrS_elim g
  obtain ⟨q3, e3, g⟩ := gPtrS_elim g
  obtain ⟨q4, e4, g⟩ := gPtrS_elim g
  exact den_cut 2 (r := (cAt C [true, true, true, true])) (by kernel_rfl) (D3.ok R) (den_enter [(2, .pointer (some q2)), (3, .pointer (some q3)), (4, .pointer (some q4))] ⟨e2, e3, e4, trivial⟩ (by kernel_rfl) g)
def D1.t (R : Rt) (b0_0 : Bool) (a0_1 : Option Addr) (l0_1 : Nat) (c0_1 : Nat) (b1_0 : Bool) (a1_1 : Option Addr) (l1_1 : Nat) (c1_1 : Nat) (h : Hp) : Prop :=
  boxK h 24 [.bool b0_0, .slice a0_1 l0_1 c0_1] fun q1 h2 =>
  boxK h2 24 [.bool b1_0, .slice a1_1 l1_1 c1_1] fun q3 h4 =>
  boxK h4 24 T24.zs fun q5 h6 =>
  ldK h6 (q1.add 0) fun v7 =>
  gBool v7 fun b_8 =>
  ldK h6 (q1.add 1) fun v9 =>
  gSlice v9 fun a_10 l_10 c_10 =>
  HC num_Form.id #[.agg #[.bool b_8, .slice a_10 l_10 c_10]] h6 fun v11 h12 =>
  gBool v11 fun b_13 =>
  cond (!b_13) (stK h12 (q5.add 0) (.bool false) fun h14 =>
  stK h14 (q5.add 1) (.slice none 0 0) fun h15 =>
  ldK h15 (q5.add 0) fun v16 =>
  gBool v16 fun b_17 =>
  ldK h15 (q5.add 1) fun v18 =>
  gSlice v18 fun a_19 l_19 c_19 =>
  R (.tuple #[.agg #[.bool b_17, .slice a_19 l_19 c_19], .int .i64 2]) h15) (ldK h12 (q3.add 0) fun v20 =>
  gBool v20 fun b_21 =>
  ldK h12 (q3.add 1) fun v22 =>
  gSlice v22 fun a_23 l_23 c_23 =>
  HC num_Form.id #[.agg #[.bool b_21, .slice a_23 l_23 c_23]] h12 fun v24 h25 =>
  gBool v24 fun b_26 =>
  cond (!b_26) (stK h25 (q5.add 0) (.bool false) fun h27 =>
  stK h27 (q5.add 1) (.slice none 0 0) fun h28 =>
  ldK h28 (q5.add 0) fun v29 =>
  gBool v29 fun b_30 =>
  ldK h28 (q5.add 1) fun v31 =>
  gSlice v31 fun a_32 l_32 c_32 =>
  R (.tuple #[.agg #[.bool b_30, .slice a_32 l_32 c_32], .int .i64 2]) h28) (D2.t R q1 q3 q5 h25))
def D1.g (R : Rt) (fr : Fr) (h : Hp) : Prop := gAgg (fr 0) fun z0 => uncons z0 fun w0_0 z0_0 => gBool w0_0 fun b0_0 => uncons z0_0 fun w0_1 z0_1 => gSlice w0_1 fun a0_1 l0_1 c0_1 => unnil z0_1 <| gAgg (fr 1) fun z1 => uncons z1 fun w1_0 z1_0 => gBool w1_0 fun b1_0 => uncons z1_0 fun w1_1 z1_1 => gSlice w1_1 fun a1_1 l1_1 c1_1 => unnil z1_1 <| D1.t R b0_0 a0_1 l0_1 c0_1 b1_0 a1_1 l1_1 c1_1 h
theorem D1.ok (R : Rt) (fr : Fr) (h : Hp) (g : D1.g R fr h) : den prog E C (retQ E [.cell 4 24, .tmp 5] R) fr h := by
  obtain ⟨z0, e0, g0_0⟩ := gAgg_elim' g
  obtain ⟨w0_0, z0_0, rfl, g0_0x⟩ := uncons_elim g0_0
  obtain ⟨b0_0, rfl, g0_1⟩ := gBool_elim g0_0x
  obtain ⟨w0_1, z0_1, rfl, g0_1x⟩ := uncons_elim g0_1
  obtain ⟨a0_1, l0_1, c0_1, rfl, g0_2⟩ := gSlice_elim g0_1x
  obtain ⟨rfl, g⟩ := unnil_elim g0_2
  obtain ⟨z1, e1, g1_0⟩ := gAgg_elim' g
  obtain ⟨w1_0, z1_0, rfl, g1_0x⟩ := uncons_elim g1_0
  obtain ⟨b1_0, rfl, g1_1⟩ := gBool_elim g1_0x
  obtain ⟨w1_1, z1_1, rfl, g1_1x⟩ := uncons_elim g1_1
  obtain ⟨a1_1, l1_1, c1_1, rfl, g1_2⟩ := gSlice_elim g1_1x
  obtain ⟨rfl, g⟩ := unnil_elim g1_2
  exact den_cut 2 (r := (cAt C [true, true])) (by kernel_rfl) (D2.ok R) (den_enter [(0, .agg #[.bool b0_0, .slice a0_1 l0_1 c0_1]), (1, .agg #[.bool b1_0, .slice a1_1 l1_1 c1_1])] ⟨e0, e1, trivial⟩ (by kernel_rfl) g)
def t (b0_0 : Bool) (a0_1 : Option Addr) (l0_1 : Nat) (c0_1 : Nat) (b1_0 : Bool) (a1_1 : Option Addr) (l1_1 : Nat) (c1_1 : Nat) (h : Hp) (R : Rt) : Prop := D1.t R b0_0 a0_1 l0_1 c0_1 b1_0 a1_1 l1_1 c1_1 h
theorem ok {b0_0 : Bool} {a0_1 : Option Addr} {l0_1 : Nat} {c0_1 : Nat} {b1_0 : Bool} {a1_1 : Option Addr} {l1_1 : Nat} {c1_1 : Nat} {h : Hp} {R : Rt} (g : t b0_0 a0_1 l0_1 c0_1 b1_0 a1_1 l1_1 c1_1 h R) : HC id #[.agg #[.bool b0_0, .slice a0_1 l0_1 c0_1], .agg #[.bool b1_0, .slice a1_1 l1_1 c1_1]] h R :=
  calls_of_den' envOk (c := C) (rs := [.cell 4 24, .tmp 5]) Tryd.func22 (by kernel_rfl) (by kernel_rfl) (by kernel_rfl) (args := [.agg #[.bool b0_0, .slice a0_1 l0_1 c0_1], .agg #[.bool b1_0, .slice a1_1 l1_1 c1_1]]) (by kernel_rfl) (D1.ok R _ h (gAgg_intro rfl (uncons_intro (gBool_intro rfl (uncons_intro (gSlice_intro rfl (unnil_intro (gAgg_intro rfl (uncons_intro (gBool_intro rfl (uncons_intro (gSlice_intro rfl (unnil_intro (g))))))))))))))
end num_Add

namespace num_Shl
noncomputable def C : Code := bodyOf Tryd.f23
def D1.t (R : Rt) (b0_0 : Bool) (a0_1 : Option Addr) (l0_1 : Nat) (c0_1 : Nat) (x1 : Int) (h : Hp) : Prop :=
  boxK h 24 [.bool b0_0, .slice a0_1 l0_1 c0_1] fun q1 h2 =>
  boxK h2 24 T24.zs fun q3 h4 =>
  cond (decide (x1 < 0)) (stK h4 (q3.add 0) (.bool false) fun h5 =>
  stK h5 (q3.add 1) (.slice none 0 0) fun h6 =>
  ldK h6 (q3.add 0) fun v7 =>
  gBool v7 fun b_8 =>
  ldK h6 (q3.add 1) fun v9 =>
  gSlice v9 fun a_10 l_10 c_10 =>
  R (.tuple #[.agg #[.bool b_8, .slice a_10 l_10 c_10], .int .i64 1]) h6) (ldK h4 (q1.add 0) fun v11 =>
  gBool v11 fun b_12 =>
  ldK h4 (q1.add 1) fun v13 =>
  gSlice v13 fun a_14 l_14 c_14 =>
  HC num_Form.id #[.agg #[.bool b_12, .slice a_14 l_14 c_14]] h4 fun v15 h16 =>
  gBool v15 fun b_17 =>
  cond (!b_17) (stK h16 (q3.add 0) (.bool false) fun h18 =>
  stK h18 (q3.add 1) (.slice none 0 0) fun h19 =>
  ldK h19 (q3.add 0) fun v20 =>
  gBool v20 fun b_21 =>
  ldK h19 (q3.add 1) fun v22 =>
  gSlice v22 fun a_23 l_23 c_23 =>
  R (.tuple #[.agg #[.bool b_21, .slice a_23 l_23 c_23], .int .i64 2]) h19) (ldK h16 (q1.add 1) fun v24 =>
  gSlice v24 fun a_25 l_25 c_25 =>
  HC nat_Shl.id #[.slice a_25 l_25 c_25, .int .i64 x1] h16 fun v26 h27 =>
  gTup v26 fun y28 =>
  uncons y28 fun v29 y29 =>
  gSlice v29 fun a_30 l_30 c_30 =>
  uncons y29 fun v31 y31 =>
  gInt .i64 v31 fun x_32 =>
  unnil y31 <| ldK h27 (q1.add 0) fun v33 =>
  gBool v33 fun b_34 =>
  HC num_told.id #[.bool b_34, .slice a_30 l_30 c_30, .int .i64 x_32] h27 fun v35 h36 =>
  gTup v35 fun y37 =>
  uncons y37 fun v38 y38 =>
  gAgg v38 fun y39 =>
  uncons y39 fun v40 y40 =>
  gBool v40 fun b_41 =>
  uncons y40 fun v42 y42 =>
  gSlice v42 fun a_43 l_43 c_43 =>
  unnil y42 <| uncons y38 fun v44 y44 =>
  gInt .i64 v44 fun x_45 =>
  unnil y44 <| stK h36 (q3.add 0) (.bool b_41) fun h46 =>
  stK h46 (q3.add 1) (.slice a_43 l_43 c_43) fun h47 =>
  ldK h47 (q3.add 0) fun v48 =>
  gBool v48 fun b_49 =>
  ldK h47 (q3.add 1) fun v50 =>
  gSlice v50 fun a_51 l_51 c_51 =>
  R (.tuple #[.agg #[.bool b_49, .slice a_51 l_51 c_51], .int .i64 x_45]) h47))
def D1.g (R : Rt) (fr : Fr) (h : Hp) : Prop := gAgg (fr 0) fun z0 => uncons z0 fun w0_0 z0_0 => gBool w0_0 fun b0_0 => uncons z0_0 fun w0_1 z0_1 => gSlice w0_1 fun a0_1 l0_1 c0_1 => unnil z0_1 <| gInt .i64 (fr 1) fun x1 => D1.t R b0_0 a0_1 l0_1 c0_1 x1 h
theorem D1.ok (R : Rt) (fr : Fr) (h : Hp) (g : D1.g R fr h) : den prog E C (retQ E [.cell 4 24, .tmp 5] R) fr h := by
  obtain ⟨z0, e0, g0_0⟩ := gAgg_elim' g
  obtain ⟨w0_0, z0_0, rfl, g0_0x⟩ := uncons_elim g0_0
  obtain ⟨b0_0, rfl, g0_1⟩ := gBool_elim g0_0x
  obtain ⟨w0_1, z0_1, rfl, g0_1x⟩ := uncons_elim g0_1
  obtain ⟨a0_1, l0_1, c0_1, rfl, g0_2⟩ := gSlice_elim g0_1x
  obtain ⟨rfl, g⟩ := unnil_elim g0_2
  obtain ⟨x1, e1, g⟩ := gInt_elim g
  exact den_enter [(0, .agg #[.bool b0_0, .slice a0_1 l0_1 c0_1]), (1, .int .i64 x1)] ⟨e0, e1, trivial⟩ (by kernel_rfl) g
def t (b0_0 : Bool) (a0_1 : Option Addr) (l0_1 : Nat) (c0_1 : Nat) (x1 : Int) (h : Hp) (R : Rt) : Prop := D1.t R b0_0 a0_1 l0_1 c0_1 x1 h
theorem ok {b0_0 : Bool} {a0_1 : Option Addr} {l0_1 : Nat} {c0_1 : Nat} {x1 : Int} {h : Hp} {R : Rt} (g : t b0_0 a0_1 l0_1 c0_1 x1 h R) : HC id #[.agg #[.bool b0_0, .slice a0_1 l0_1 c0_1], .int .i64 x1] h R :=
  calls_of_den' envOk (c := C) (rs := [.cell 4 24, .tmp 5]) Tryd.func23 (by kernel_rfl) (by kernel_rfl) (by kernel_rfl) (args := [.agg #[.bool b0_0, .slice a0_1 l0_1 c0_1], .int .i64 x1]) (by kernel_rfl) (D1.ok R _ h (gAgg_intro rfl (uncons_intro (gBool_intro rfl (uncons_intro (gSlice_intro rfl (unnil_intro (gInt_intro rfl (g)))))))))
end num_Shl

namespace num_NearDiv
noncomputable def C : Code := bodyOf Tryd.f24
def D1.t (R : Rt) (b0_0 : Bool) (a0_1 : Option Addr) (l0_1 : Nat) (c0_1 : Nat) (b1_0 : Bool) (a1_1 : Option Addr) (l1_1 : Nat) (c1_1 : Nat) (h : Hp) : Prop :=
  boxK h 24 [.bool b0_0, .slice a0_1 l0_1 c0_1] fun q1 h2 =>
  boxK h2 24 [.bool b1_0, .slice a1_1 l1_1 c1_1] fun q3 h4 =>
  boxK h4 24 T24.zs fun q5 h6 =>
  ldK h6 (q1.add 0) fun v7 =>
  gBool v7 fun b_8 =>
  ldK h6 (q1.add 1) fun v9 =>
  gSlice v9 fun a_10 l_10 c_10 =>
  ldK h6 (q3.add 0) fun v11 =>
  gBool v11 fun b_12 =>
  ldK h6 (q3.add 1) fun v13 =>
  gSlice v13 fun a_14 l_14 c_14 =>
  HC num_way_div.id #[.int .i64 2, .agg #[.bool b_8, .slice a_10 l_10 c_10], .agg #[.bool b_12, .slice a_14 l_14 c_14]] h6 fun v15 h16 =>
  gTup v15 fun y17 =>
  uncons y17 fun v18 y18 =>
  gAgg v18 fun y19 =>
  uncons y19 fun v20 y20 =>
  gBool v20 fun b_21 =>
  uncons y20 fun v22 y22 =>
  gSlice v22 fun a_23 l_23 c_23 =>
  unnil y22 <| uncons y18 fun v24 y24 =>
  gInt .i64 v24 fun x_25 =>
  unnil y24 <| stK h16 (q5.add 0) (.bool b_21) fun h26 =>
  stK h26 (q5.add 1) (.slice a_23 l_23 c_23) fun h27 =>
  ldK h27 (q5.add 0) fun v28 =>
  gBool v28 fun b_29 =>
  ldK h27 (q5.add 1) fun v30 =>
  gSlice v30 fun a_31 l_31 c_31 =>
  R (.tuple #[.agg #[.bool b_29, .slice a_31 l_31 c_31], .int .i64 x_25]) h27
def D1.g (R : Rt) (fr : Fr) (h : Hp) : Prop := gAgg (fr 0) fun z0 => uncons z0 fun w0_0 z0_0 => gBool w0_0 fun b0_0 => uncons z0_0 fun w0_1 z0_1 => gSlice w0_1 fun a0_1 l0_1 c0_1 => unnil z0_1 <| gAgg (fr 1) fun z1 => uncons z1 fun w1_0 z1_0 => gBool w1_0 fun b1_0 => uncons z1_0 fun w1_1 z1_1 => gSlice w1_1 fun a1_1 l1_1 c1_1 => unnil z1_1 <| D1.t R b0_0 a0_1 l0_1 c0_1 b1_0 a1_1 l1_1 c1_1 h
theorem D1.ok (R : Rt) (fr : Fr) (h : Hp) (g : D1.g R fr h) : den prog E C (retQ E [.cell 4 24, .tmp 5] R) fr h := by
  obtain ⟨z0, e0, g0_0⟩ := gAgg_elim' g
  obtain ⟨w0_0, z0_0, rfl, g0_0x⟩ := uncons_elim g0_0
  obtain ⟨b0_0, rfl, g0_1⟩ := gBool_elim g0_0x
  obtain ⟨w0_1, z0_1, rfl, g0_1x⟩ := uncons_elim g0_1
  obtain ⟨a0_1, l0_1, c0_1, rfl, g0_2⟩ := gSlice_elim g0_1x
  obtain ⟨rfl, g⟩ := unnil_elim g0_2
  obtain ⟨z1, e1, g1_0⟩ := gAgg_elim' g
  obtain ⟨w1_0, z1_0, rfl, g1_0x⟩ := uncons_elim g1_0
  obtain ⟨b1_0, rfl, g1_1⟩ := gBool_elim g1_0x
  obtain ⟨w1_1, z1_1, rfl, g1_1x⟩ := uncons_elim g1_1
  obtain ⟨a1_1, l1_1, c1_1, rfl, g1_2⟩ := gSlice_elim g1_1x
  obtain ⟨rfl, g⟩ := unnil_elim g1_2
  exact den_enter [(0, .agg #[.bool b0_0, .slice a0_1 l0_1 c0_1]), (1, .agg #[.bool b1_0, .slice a1_1 l1_1 c1_1])] ⟨e0, e1, trivial⟩ (by kernel_rfl) g
def t (b0_0 : Bool) (a0_1 : Option Addr) (l0_1 : Nat) (c0_1 : Nat) (b1_0 : Bool) (a1_1 : Option Addr) (l1_1 : Nat) (c1_1 : Nat) (h : Hp) (R : Rt) : Prop := D1.t R b0_0 a0_1 l0_1 c0_1 b1_0 a1_1 l1_1 c1_1 h
theorem ok {b0_0 : Bool} {a0_1 : Option Addr} {l0_1 : Nat} {c0_1 : Nat} {b1_0 : Bool} {a1_1 : Option Addr} {l1_1 : Nat} {c1_1 : Nat} {h : Hp} {R : Rt} (g : t b0_0 a0_1 l0_1 c0_1 b1_0 a1_1 l1_1 c1_1 h R) : HC id #[.agg #[.bool b0_0, .slice a0_1 l0_1 c0_1], .agg #[.bool b1_0, .slice a1_1 l1_1 c1_1]] h R :=
  calls_of_den' envOk (c := C) (rs := [.cell 4 24, .tmp 5]) Tryd.func24 (by kernel_rfl) (by kernel_rfl) (by kernel_rfl) (args := [.agg #[.bool b0_0, .slice a0_1 l0_1 c0_1], .agg #[.bool b1_0, .slice a1_1 l1_1 c1_1]]) (by kernel_rfl) (D1.ok R _ h (gAgg_intro rfl (uncons_intro (gBool_intro rfl (uncons_intro (gSlice_intro rfl (unnil_intro (gAgg_intro rfl (uncons_intro (gBool_intro rfl (uncons_intro (gSlice_intro rfl (unnil_intro (g))))))))))))))
end num_NearDiv

namespace num_Mod
noncomputable def C : Code := bodyOf Tryd.f25
def D3.t (R : Rt) (q3 : Addr) (q4 : Addr) (a7 : Option Addr) (l7 : Nat) (c7 : Nat) (x8 : Int) (h : Hp) : Prop :=
  ldK h (q3.add 0) fun v73 =>
  gBool v73 fun b_74 =>
  HC num_told.id #[.bool b_74, .slice a7 l7 c7, .int .i64 x8] h fun v75 h76 =>
  gTup v75 fun y77 =>
  uncons y77 fun v78 y78 =>
  gAgg v78 fun y79 =>
  uncons y79 fun v80 y80 =>
  gBool v80 fun b_81 =>
  uncons y80 fun v82 y82 =>
  gSlice v82 fun a_83 l_83 c_83 =>
  unnil y82 <| uncons y78 fun v84 y84 =>
  gInt .i64 v84 fun x_85 =>
  unnil y84 <| stK h76 (q4.add 0) (.bool b_81) fun h86 =>
  stK h86 (q4.add 1) (.slice a_83 l_83 c_83) fun h87 =>
  ldK h87 (q4.add 0) fun v88 =>
  gBool v88 fun b_89 =>
  ldK h87 (q4.add 1) fun v90 =>
  gSlice v90 fun a_91 l_91 c_91 =>
  R (.tuple #[.agg #[.bool b_89, .slice a_91 l_91 c_91], .int .i64 x_85]) h87
def D3.g (R : Rt) (fr : Fr) (h : Hp) : Prop := gPtrS (fr 3) fun q3 => gPtrS (fr 4) fun q4 => gSlice (fr 7) fun a7 l7 c7 => gInt .i64 (fr 8) fun x8 => D3.t R q3 q4 a7 l7 c7 x8 h
theorem D3.ok (R : Rt) (fr : Fr) (h : Hp) (g : D3.g R fr h) : den prog E (cAt C [true, true, true, true, true, true]) (retQ E [.cell 4 24, .tmp 5] R) fr h := by
  obtain ⟨q3, e3, g⟩ := gPtrS_elim g
  obtain ⟨q4, e4, g⟩ := gPtrS_elim g
  obtain ⟨a7, l7, c7, e7, g⟩ := gSlice_elim g
  obtain ⟨x8, e8, g⟩ := gInt_elim g
  exact den_enter [(3, .pointer (some q3)), (4, .pointer (some q4)), (7, .slice a7 l7 c7), (8, .int .i64 x8)] ⟨e3, e4, e7, e8, trivial⟩ (by kernel_rfl) g
def D2.t (R : Rt) (q2 : Addr) (q3 : Addr) (q4 : Addr) (h : Hp) : Prop :=
  ldK h (q3.add 1) fun v33 =>
  gSlice v33 fun a_34 l_34 c_34 =>
  cond ((((l_34 : Nat) : Int)) == 0) (stK h (q4.add 0) (.bool false) fun h35 =>
  stK h35 (q4.add 1) (.slice none 0 0) fun h36 =>
  ldK h36 (q4.add 0) fun v37 =>
  gBool v37 fun b_38 =>
  ldK h36 (q4.add 1) fun v39 =>
  gSlice v39 fun a_40 l_40 c_40 =>
  R (.tuple #[.agg #[.bool b_38, .slice a_40 l_40 c_40], .int .i64 4]) h36) (ldK h (q2.add 1) fun v41 =>
  gSlice v41 fun a_42 l_42 c_42 =>
  ldK h (q3.add 1) fun v43 =>
  gSlice v43 fun a_44 l_44 c_44 =>
  HC natdiv_QuoRem.id #[.slice a_42 l_42 c_42, .slice a_44 l_44 c_44] h fun v45 h46 =>
  gTup v45 fun y47 =>
  uncons y47 fun v48 y48 =>
  gSlice v48 fun a_49 l_49 c_49 =>
  uncons y48 fun v50 y50 =>
  gSlice v50 fun a_51 l_51 c_51 =>
  uncons y50 fun v52 y52 =>
  gInt .i64 v52 fun x_53 =>
  unnil y52 <| cond (x_53 != 0) (stK h46 (q4.add 0) (.bool false) fun h54 =>
  stK h54 (q4.add 1) (.slice none 0 0) fun h55 =>
  ldK h55 (q4.add 0) fun v56 =>
  gBool v56 fun b_57 =>
  ldK h55 (q4.add 1) fun v58 =>
  gSlice v58 fun a_59 l_59 c_59 =>
  R (.tuple #[.agg #[.bool b_57, .slice a_59 l_59 c_59], .int .i64 x_53]) h55) (ldK h46 (q2.add 0) fun v60 =>
  gBool v60 fun b_61 =>
  ldK h46 (q3.add 0) fun v62 =>
  gBool v62 fun b_63 =>
  cond (!(b_61 == b_63)) (cond (decide ((((l_51 : Nat) : Int)) > 0)) (ldK h46 (q3.add 1) fun v64 =>
  gSlice v64 fun a_65 l_65 c_65 =>
  HC nat_Sub.id #[.slice a_65 l_65 c_65, .slice a_51 l_51 c_51] h46 fun v66 h67 =>
  gTup v66 fun y68 =>
  uncons y68 fun v69 y69 =>
  gSlice v69 fun a_70 l_70 c_70 =>
  uncons y69 fun v71 y71 =>
  gInt .i64 v71 fun x_72 =>
  unnil y71 <| D3.t R q3 q4 a_70 l_70 c_70 x_72 h67) (D3.t R q3 q4 a_51 l_51 c_51 x_53 h46)) (D3.t R q3 q4 a_51 l_51 c_51 x_53 h46)))
def D2.g (R : Rt) (fr : Fr) (h : Hp) : Prop := gPtrS (fr 2) fun q2 => gPtrS (fr 3) fun q3 => gPtrS (fr 4) fun q4 => D2.t R q2 q3 q4 h
theorem D2.ok (R : Rt) (fr : Fr) (h : Hp) (g : D2.g R fr h) : den prog E (cAt C [true, true]) (retQ E [.cell 4 24, .tmp 5] R) fr h := by
  obtain ⟨q2, e2, g⟩ := gPtrS_elim g
  obtain ⟨q3, e3, g⟩ := gPtrS_elim g
  obtain ⟨q4, e4, g⟩ := gPtrS_elim g
  exact den_cut 4 (r := (cAt C [true, true, true, true, true, true])) (by kernel_rfl) (D3.ok R) (den_enter [(2, .pointer (some q2)), (3, .pointer (some q3)), (4, .pointer (some q4))] ⟨e2, e3, e4, trivial⟩ (by kernel_rfl) g)
def D1.t (R : Rt) (b0_0 : Bool) (a0_1 : Option Addr) (l0_1 : Nat) (c0_1 : Nat) (b1_0 : Bool) (a1_1 : Option Addr) (l1_1 : Nat) (c1_1 : Nat) (h : Hp) : Prop :=
  boxK h 24 [.bool b0_0, .slice a0_1 l0_1 c0_1] fun q1 h2 =>
  boxK h2 24 [.bool b1_0, .slice a1_1 l1_1 c1_1] fun q3 h4 =>
  boxK h4 24 T24.zs fun q5 h6 =>
  ldK h6 (q1.add 0) fun v7 =>
  gBool v7 fun b_8 =>
  ldK h6 (q1.add 1) fun v9 =>
  gSlice v9 fun a_10 l_10 c_10 =>
  HC num_Form.id #[.agg #[.bool b_8, .slice a_10 l_10 c_10]] h6 fun v11 h12 =>
  gBool v11 fun b_13 =>
  cond (!b_13) (stK h12 (q5.add 0) (.bool false) fun h14 =>
  stK h14 (q5.add 1) (.slice none 0 0) fun h15 =>
  ldK h15 (q5.add 0) fun v16 =>
  gBool v16 fun b_17 =>
  ldK h15 (q5.add 1) fun v18 =>
  gSlice v18 fun a_19 l_19 c_19 =>
  R (.tuple #[.agg #[.bool b_17, .slice a_19 l_19 c_19], .int .i64 2]) h15) (ldK h12 (q3.add 0) fun v20 =>
  gBool v20 fun b_21 =>
  ldK h12 (q3.add 1) fun v22 =>
  gSlice v22 fun a_23 l_23 c_23 =>
  HC num_Form.id #[.agg #[.bool b_21, .slice a_23 l_23 c_23]] h12 fun v24 h25 =>
  gBool v24 fun b_26 =>
  cond (!b_26) (stK h25 (q5.add 0) (.bool false) fun h27 =>
  stK h27 (q5.add 1) (.slice none 0 0) fun h28 =>
  ldK h28 (q5.add 0) fun v29 =>
  gBool v29 fun b_30 =>
  ldK h28 (q5.add 1) fun v31 =>
  gSlice v31 fun a_32 l_32 c_32 =>
  R (.tuple #[.agg #[.bool b_30, .slice a_32 l_32 c_32], .int .i64 2]) h28) (D2.t R q1 q3 q5 h25))
def D1.g (R : Rt) (fr : Fr) (h : Hp) : Prop := gAgg (fr 0) fun z0 => uncons z0 fun w0_0 z0_0 => gBool w0_0 fun b0_0 => uncons z0_0 fun w0_1 z0_1 => gSlice w0_1 fun a0_1 l0_1 c0_1 => unnil z0_1 <| gAgg (fr 1) fun z1 => uncons z1 fun w1_0 z1_0 => gBool w1_0 fun b1_0 => uncons z1_0 fun w1_1 z1_1 => gSlice w1_1 fun a1_1 l1_1 c1_1 => unnil z1_1 <| D1.t R b0_0 a0_1 l0_1 c0_1 b1_0 a1_1 l1_1 c1_1 h
theorem D1.ok (R : Rt) (fr : Fr) (h : Hp) (g : D1.g R fr h) : den prog E C (retQ E [.cell 4 24, .tmp 5] R) fr h := by
  obtain ⟨z0, e0, g0_0⟩ := gAgg_elim' g
  obtain ⟨w0_0, z0_0, rfl, g0_0x⟩ := uncons_elim g0_0
  obtain ⟨b0_0, rfl, g0_1⟩ := gBool_elim g0_0x
  obtain ⟨w0_1, z0_1, rfl, g0_1x⟩ := uncons_elim g0_1
  obtain ⟨a0_1, l0_1, c0_1, rfl, g0_2⟩ := gSlice_elim g0_1x
  obtain ⟨rfl, g⟩ := unnil_elim g0_2
  obtain ⟨z1, e1, g1_0⟩ := gAgg_elim' g
  obtain ⟨w1_0, z1_0, rfl, g1_0x⟩ := uncons_elim g1_0
  obtain ⟨b1_0, rfl, g1_1⟩ := gBool_elim g1_0x
  obtain ⟨w1_1, z1_1, rfl, g1_1x⟩ := uncons_elim g1_1
  obtain ⟨a1_1, l1_1, c1_1, rfl, g1_2⟩ := gSlice_elim g1_1x
  obtain ⟨rfl, g⟩ := unnil_elim g1_2
  exact den_cut 2 (r := (cAt C [true, true])) (by kernel_rfl) (D2.ok R) (den_enter [(0, .agg #[.bool b0_0, .slice a0_1 l0_1 c0_1]), (1, .agg #[.bool b1_0, .slice a1_1 l1_1 c1_1])] ⟨e0, e1, trivial⟩ (by kernel_rfl) g)
def t (b0_0 : Bool) (a0_1 : Option Addr) (l0_1 : Nat) (c0_1 : Nat) (b1_0 : Bool) (a1_1 : Option Addr) (l1_1 : Nat) (c1_1 : Nat) (h : Hp) (R : Rt) : Prop := D1.t R b0_0 a0_1 l0_1 c0_1 b1_0 a1_1 l1_1 c1_1 h
theorem ok {b0_0 : Bool} {a0_1 : Option Addr} {l0_1 : Nat} {c0_1 : Nat} {b1_0 : Bool} {a1_1 : Option Addr} {l1_1 : Nat} {c1_1 : Nat} {h : Hp} {R : Rt} (g : t b0_0 a0_1 l0_1 c0_1 b1_0 a1_1 l1_1 c1_1 h R) : HC id #[.agg #[.bool b0_0, .slice a0_1 l0_1 c0_1], .agg #[.bool b1_0, .slice a1_1 l1_1 c1_1]] h R :=
  calls_of_den' envOk (c := C) (rs := [.cell 4 24, .tmp 5]) Tryd.func25 (by kernel_rfl) (by kernel_rfl) (by kernel_rfl) (args := [.agg #[.bool b0_0, .slice a0_1 l0_1 c0_1], .agg #[.bool b1_0, .slice a1_1 l1_1 c1_1]]) (by kernel_rfl) (D1.ok R _ h (gAgg_intro rfl (uncons_intro (gBool_intro rfl (uncons_intro (gSlice_intro rfl (unnil_intro (gAgg_intro rfl (uncons_intro (gBool_intro rfl (uncons_intro (gSlice_intro rfl (unnil_intro (g))))))))))))))
end num_Mod

namespace num_Mul
noncomputable def C : Code := bodyOf Tryd.f26
def D2.t (R : Rt) (q2 : Addr) (q3 : Addr) (q4 : Addr) (h : Hp) : Prop :=
  ldK h (q2.add 1) fun v33 =>
  gSlice v33 fun a_34 l_34 c_34 =>
  ldK h (q3.add 1) fun v35 =>
  gSlice v35 fun a_36 l_36 c_36 =>
  HC natmul_Mul.id #[.slice a_34 l_34 c_34, .slice a_36 l_36 c_36] h fun v37 h38 =>
  gTup v37 fun y39 =>
  uncons y39 fun v40 y40 =>
  gSlice v40 fun a_41 l_41 c_41 =>
  uncons y40 fun v42 y42 =>
  gInt .i64 v42 fun x_43 =>
  unnil y42 <| ldK h38 (q2.add 0) fun v44 =>
  gBool v44 fun b_45 =>
  ldK h38 (q3.add 0) fun v46 =>
  gBool v46 fun b_47 =>
  HC num_told.id #[.bool (!(b_45 == b_47)), .slice a_41 l_41 c_41, .int .i64 x_43] h38 fun v48 h49 =>
  gTup v48 fun y50 =>
  uncons y50 fun v51 y51 =>
  gAgg v51 fun y52 =>
  uncons y52 fun v53 y53 =>
  gBool v53 fun b_54 =>
  uncons y53 fun v55 y55 =>
  gSlice v55 fun a_56 l_56 c_56 =>
  unnil y55 <| uncons y51 fun v57 y57 =>
  gInt .i64 v57 fun x_58 =>
  unnil y57 <| stK h49 (q4.add 0) (.bool b_54) fun h59 =>
  stK h59 (q4.add 1) (.slice a_56 l_56 c_56) fun h60 =>
  ldK h60 (q4.add 0) fun v61 =>
  gBool v61 fun b_62 =>
  ldK h60 (q4.add 1) fun v63 =>
  gSlice v63 fun a_64 l_64 c_64 =>
  R (.tuple #[.agg #[.bool b_62, .slice a_64 l_64 c_64], .int .i64 x_58]) h60
def D2.g (R : Rt) (fr : Fr) (h : Hp) : Prop := gPtrS (fr 2) fun q2 => gPtrS (fr 3) fun q3 => gPtrS (fr 4) fun q4 => D2.t R q2 q3 q4 h
theorem D2.ok (R : Rt) (fr : Fr) (h : Hp) (g : D2.g R fr h) : den prog E (cAt C [true, true]) (retQ E [.cell 4 24, .tmp 5] R) fr h := by
  obtain ⟨q2, e2, g⟩ := gPtrS_elim g
  obtain ⟨q3, e3, g⟩ := gPtrS_elim g
  obtain ⟨q4, e4, g⟩ := gPtrS_elim g
  exact den_enter [(2, .pointer (some q2)), (3, .pointer (some q3)), (4, .pointer (some q4))] ⟨e2, e3, e4, trivial⟩ (by kernel_rfl) g
def D1.t (R : Rt) (b0_0 : Bool) (a0_1 : Option Addr) (l0_1 : Nat) (c0_1 : Nat) (b1_0 : Bool) (a1_1 : Option Addr) (l1_1 : Nat) (c1_1 : Nat) (h : Hp) : Prop :=
  boxK h 24 [.bool b0_0, .slice a0_1 l0_1 c0_1] fun q1 h2 =>
  boxK h2 24 [.bool b1_0, .slice a1_1 l1_1 c1_1] fun q3 h4 =>
  boxK h4 24 T24.zs fun q5 h6 =>
  ldK h6 (q1.add 0) fun v7 =>
  gBool v7 fun b_8 =>
  ldK h6 (q1.add 1) fun v9 =>
  gSlice v9 fun a_10 l_10 c_10 =>
  HC num_Form.id #[.agg #[.bool b_8, .slice a_10 l_10 c_10]] h6 fun v11 h12 =>
  gBool v11 fun b_13 =>
  cond (!b_13) (stK h12 (q5.add 0) (.bool false) fun h14 =>
  stK h14 (q5.add 1) (.slice none 0 0) fun h15 =>
  ldK h15 (q5.add 0) fun v16 =>
  gBool v16 fun b_17 =>
  ldK h15 (q5.add 1) fun v18 =>
  gSlice v18 fun a_19 l_19 c_19 =>
  R (.tuple #[.agg #[.bool b_17, .slice a_19 l_19 c_19], .int .i64 2]) h15) (ldK h12 (q3.add 0) fun v20 =>
  gBool v20 fun b_21 =>
  ldK h12 (q3.add 1) fun v22 =>
  gSlice v22 fun a_23 l_23 c_23 =>
  HC num_Form.id #[.agg #[.bool b_21, .slice a_23 l_23 c_23]] h12 fun v24 h25 =>
  gBool v24 fun b_26 =>
  cond (!b_26) (stK h25 (q5.add 0) (.bool false) fun h27 =>
  stK h27 (q5.add 1) (.slice none 0 0) fun h28 =>
  ldK h28 (q5.add 0) fun v29 =>
  gBool v29 fun b_30 =>
  ldK h28 (q5.add 1) fun v31 =>
  gSlice v31 fun a_32 l_32 c_32 =>
  R (.tuple #[.agg #[.bool b_30, .slice a_32 l_32 c_32], .int .i64 2]) h28) (D2.t R q1 q3 q5 h25))
def D1.g (R : Rt) (fr : Fr) (h : Hp) : Prop := gAgg (fr 0) fun z0 => uncons z0 fun w0_0 z0_0 => gBool w0_0 fun b0_0 => uncons z0_0 fun w0_1 z0_1 => gSlice w0_1 fun a0_1 l0_1 c0_1 => unnil z0_1 <| gAgg (fr 1) fun z1 => uncons z1 fun w1_0 z1_0 => gBool w1_0 fun b1_0 => uncons z1_0 fun w1_1 z1_1 => gSlice w1_1 fun a1_1 l1_1 c1_1 => unnil z1_1 <| D1.t R b0_0 a0_1 l0_1 c0_1 b1_0 a1_1 l1_1 c1_1 h
theorem D1.ok (R : Rt) (fr : Fr) (h : Hp) (g : D1.g R fr h) : den prog E C (retQ E [.cell 4 24, .tmp 5] R) fr h := by
  obtain ⟨z0, e0, g0_0⟩ := gAgg_elim' g
  obtain ⟨w0_0, z0_0, rfl, g0_0x⟩ := uncons_elim g0_0
  obtain ⟨b0_0, rfl, g0_1⟩ := gBool_elim g0_0x
  obtain ⟨w0_1, z0_1, rfl, g0_1x⟩ := uncons_elim g0_1
  obtain ⟨a0_1, l0_1, c0_1, rfl, g0_2⟩ := gSlice_elim g0_1x
  obtain ⟨rfl, g⟩ := unnil_elim g0_2
  obtain ⟨z1, e1, g1_0⟩ := gAgg_elim' g
  obtain ⟨w1_0, z1_0, rfl, g1_0x⟩ := uncons_elim g1_0
  obtain ⟨b1_0, rfl, g1_1⟩ := gBool_elim g1_0x
  obtain ⟨w1_1, z1_1, rfl, g1_1x⟩ := uncons_elim g1_1
  obtain ⟨a1_1, l1_1, c1_1, rfl, g1_2⟩ := gSlice_elim g1_1x
  obtain ⟨rfl, g⟩ := unnil_elim g1_2
  exact den_cut 2 (r := (cAt C [true, true])) (by kernel_rfl) (D2.ok R) (den_enter [(0, .agg #[.bool b0_0, .slice a0_1 l0_1 c0_1]), (1, .agg #[.bool b1_0, .slice a1_1 l1_1 c1_1])] ⟨e0, e1, trivial⟩ (by kernel_rfl) g)
def t (b0_0 : Bool) (a0_1 : Option Addr) (l0_1 : Nat) (c0_1 : Nat) (b1_0 : Bool) (a1_1 : Option Addr) (l1_1 : Nat) (c1_1 : Nat) (h : Hp) (R : Rt) : Prop := D1.t R b0_0 a0_1 l0_1 c0_1 b1_0 a1_1 l1_1 c1_1 h
theorem ok {b0_0 : Bool} {a0_1 : Option Addr} {l0_1 : Nat} {c0_1 : Nat} {b1_0 : Bool} {a1_1 : Option Addr} {l1_1 : Nat} {c1_1 : Nat} {h : Hp} {R : Rt} (g : t b0_0 a0_1 l0_1 c0_1 b1_0 a1_1 l1_1 c1_1 h R) : HC id #[.agg #[.bool b0_0, .slice a0_1 l0_1 c0_1], .agg #[.bool b1_0, .slice a1_1 l1_1 c1_1]] h R :=
  calls_of_den' envOk (c := C) (rs := [.cell 4 24, .tmp 5]) Tryd.func26 (by kernel_rfl) (by kernel_rfl) (by kernel_rfl) (args := [.agg #[.bool b0_0, .slice a0_1 l0_1 c0_1], .agg #[.bool b1_0, .slice a1_1 l1_1 c1_1]]) (by kernel_rfl) (D1.ok R _ h (gAgg_intro rfl (uncons_intro (gBool_intro rfl (uncons_intro (gSlice_intro rfl (unnil_intro (gAgg_intro rfl (uncons_intro (gBool_intro rfl (uncons_intro (gSlice_intro rfl (unnil_intro (g))))))))))))))
end num_Mul

namespace num_Sub
noncomputable def C : Code := bodyOf Tryd.f27
def D2.t (R : Rt) (q2 : Addr) (q3 : Addr) (q4 : Addr) (h : Hp) : Prop :=
  q2.block < h.size ∧ ldK h (q2.add 0) fun v33 =>
  gBool v33 fun b_34 =>
  ldK h (q2.add 1) fun v35 =>
  gSlice v35 fun a_36 l_36 c_36 =>
  (q3.add 0).block < h.size ∧ ldK h (q3.add 0) fun v37 =>
  gBool v37 fun b_38 =>
  (q3.add 1).block < h.size ∧ ldK h (q3.add 1) fun v39 =>
  gSlice v39 fun a_40 l_40 c_40 =>
  HC num_whole.id #[.bool (!b_38), .slice a_40 l_40 c_40] h fun v41 h42 =>
  gAgg v41 fun y43 =>
  uncons y43 fun v44 y44 =>
  gBool v44 fun b_45 =>
  uncons y44 fun v46 y46 =>
  gSlice v46 fun a_47 l_47 c_47 =>
  unnil y46 <| (Pre h.size h h42) ∧ HC num_Add.id #[.agg #[.bool b_34, .slice a_36 l_36 c_36], .agg #[.bool b_45, .slice a_47 l_47 c_47]] h42 fun v48 h49 =>
  gTup v48 fun y50 =>
  uncons y50 fun v51 y51 =>
  gAgg v51 fun y52 =>
  uncons y52 fun v53 y53 =>
  gBool v53 fun b_54 =>
  uncons y53 fun v55 y55 =>
  gSlice v55 fun a_56 l_56 c_56 =>
  unnil y55 <| uncons y51 fun v57 y57 =>
  gInt .i64 v57 fun x_58 =>
  unnil y57 <| (Pre h.size h42 h49) ∧ stK h49 (q4.add 0) (.bool b_54) fun h59 =>
  stK h59 (q4.add 1) (.slice a_56 l_56 c_56) fun h60 =>
  ldK h60 (q4.add 0) fun v61 =>
  gBool v61 fun b_62 =>
  ldK h60 (q4.add 1) fun v63 =>
  gSlice v63 fun a_64 l_64 c_64 =>
  R (.tuple #[.agg #[.bool b_62, .slice a_64 l_64 c_64], .int .i64 x_58]) h60
def D2.g (R : Rt) (fr : Fr) (h : Hp) : Prop := gPtrS (fr 2) fun q2 => gPtrS (fr 3) fun q3 => gPtrS (fr 4) fun q4 => D2.t R q2 q3 q4 h
theorem D2.ok (R : Rt) (fr : Fr) (h : Hp) (g : D2.g R fr h) : den prog E (cAt C [true, true]) (retQ E [.cell 4 24, .tmp 5] R) fr h := by
  obtain ⟨q2, e2, g⟩ := gPtrS_elim g
  obtain ⟨q3, e3, g⟩ := gPtrS_elim g
  obtain ⟨q4, e4, g⟩ := gPtrS_elim g
  exact den_enter [(2, .pointer (some q2)), (3, .pointer (some q3)), (4, .pointer (some q4))] ⟨e2, e3, e4, trivial⟩ (by kernel_rfl) g
def D1.t (R : Rt) (b0_0 : Bool) (a0_1 : Option Addr) (l0_1 : Nat) (c0_1 : Nat) (b1_0 : Bool) (a1_1 : Option Addr) (l1_1 : Nat) (c1_1 : Nat) (h : Hp) : Prop :=
  boxK h 24 [.bool b0_0, .slice a0_1 l0_1 c0_1] fun q1 h2 =>
  boxK h2 24 [.bool b1_0, .slice a1_1 l1_1 c1_1] fun q3 h4 =>
  boxK h4 24 T24.zs fun q5 h6 =>
  ldK h6 (q1.add 0) fun v7 =>
  gBool v7 fun b_8 =>
  ldK h6 (q1.add 1) fun v9 =>
  gSlice v9 fun a_10 l_10 c_10 =>
  HC num_Form.id #[.agg #[.bool b_8, .slice a_10 l_10 c_10]] h6 fun v11 h12 =>
  gBool v11 fun b_13 =>
  cond (!b_13) (stK h12 (q5.add 0) (.bool false) fun h14 =>
  stK h14 (q5.add 1) (.slice none 0 0) fun h15 =>
  ldK h15 (q5.add 0) fun v16 =>
  gBool v16 fun b_17 =>
  ldK h15 (q5.add 1) fun v18 =>
  gSlice v18 fun a_19 l_19 c_19 =>
  R (.tuple #[.agg #[.bool b_17, .slice a_19 l_19 c_19], .int .i64 2]) h15) (ldK h12 (q3.add 0) fun v20 =>
  gBool v20 fun b_21 =>
  ldK h12 (q3.add 1) fun v22 =>
  gSlice v22 fun a_23 l_23 c_23 =>
  HC num_Form.id #[.agg #[.bool b_21, .slice a_23 l_23 c_23]] h12 fun v24 h25 =>
  gBool v24 fun b_26 =>
  cond (!b_26) (stK h25 (q5.add 0) (.bool false) fun h27 =>
  stK h27 (q5.add 1) (.slice none 0 0) fun h28 =>
  ldK h28 (q5.add 0) fun v29 =>
  gBool v29 fun b_30 =>
  ldK h28 (q5.add 1) fun v31 =>
  gSlice v31 fun a_32 l_32 c_32 =>
  R (.tuple #[.agg #[.bool b_30, .slice a_32 l_32 c_32], .int .i64 2]) h28) (D2.t R q1 q3 q5 h25))
def D1.g (R : Rt) (fr : Fr) (h : Hp) : Prop := gAgg (fr 0) fun z0 => uncons z0 fun w0_0 z0_0 => gBool w0_0 fun b0_0 => uncons z0_0 fun w0_1 z0_1 => gSlice w0_1 fun a0_1 l0_1 c0_1 => unnil z0_1 <| gAgg (fr 1) fun z1 => uncons z1 fun w1_0 z1_0 => gBool w1_0 fun b1_0 => uncons z1_0 fun w1_1 z1_1 => gSlice w1_1 fun a1_1 l1_1 c1_1 => unnil z1_1 <| D1.t R b0_0 a0_1 l0_1 c0_1 b1_0 a1_1 l1_1 c1_1 h
theorem D1.ok (R : Rt) (fr : Fr) (h : Hp) (g : D1.g R fr h) : den prog E C (retQ E [.cell 4 24, .tmp 5] R) fr h := by
  obtain ⟨z0, e0, g0_0⟩ := gAgg_elim' g
  obtain ⟨w0_0, z0_0, rfl, g0_0x⟩ := uncons_elim g0_0
  obtain ⟨b0_0, rfl, g0_1⟩ := gBool_elim g0_0x
  obtain ⟨w0_1, z0_1, rfl, g0_1x⟩ := uncons_elim g0_1
  obtain ⟨a0_1, l0_1, c0_1, rfl, g0_2⟩ := gSlice_elim g0_1x
  obtain ⟨rfl, g⟩ := unnil_elim g0_2
  obtain ⟨z1, e1, g1_0⟩ := gAgg_elim' g
  obtain ⟨w1_0, z1_0, rfl, g1_0x⟩ := uncons_elim g1_0
  obtain ⟨b1_0, rfl, g1_1⟩ := gBool_elim g1_0x
  obtain ⟨w1_1, z1_1, rfl, g1_1x⟩ := uncons_elim g1_1
  obtain ⟨a1_1, l1_1, c1_1, rfl, g1_2⟩ := gSlice_elim g1_1x
  obtain ⟨rfl, g⟩ := unnil_elim g1_2
  exact den_cut 2 (r := (cAt C [true, true])) (by kernel_rfl) (D2.ok R) (den_enter [(0, .agg #[.bool b0_0, .slice a0_1 l0_1 c0_1]), (1, .agg #[.bool b1_0, .slice a1_1 l1_1 c1_1])] ⟨e0, e1, trivial⟩ (by kernel_rfl) g)
def t (b0_0 : Bool) (a0_1 : Option Addr) (l0_1 : Nat) (c0_1 : Nat) (b1_0 : Bool) (a1_1 : Option Addr) (l1_1 : Nat) (c1_1 : Nat) (h : Hp) (R : Rt) : Prop := D1.t R b0_0 a0_1 l0_1 c0_1 b1_0 a1_1 l1_1 c1_1 h
theorem ok {b0_0 : Bool} {a0_1 : Option Addr} {l0_1 : Nat} {c0_1 : Nat} {b1_0 : Bool} {a1_1 : Option Addr} {l1_1 : Nat} {c1_1 : Nat} {h : Hp} {R : Rt} (g : t b0_0 a0_1 l0_1 c0_1 b1_0 a1_1 l1_1 c1_1 h R) : HC id #[.agg #[.bool b0_0, .slice a0_1 l0_1 c0_1], .agg #[.bool b1_0, .slice a1_1 l1_1 c1_1]] h R :=
  calls_of_den' envOk (c := C) (rs := [.cell 4 24, .tmp 5]) Tryd.func27 (by kernel_rfl) (by kernel_rfl) (by kernel_rfl) (args := [.agg #[.bool b0_0, .slice a0_1 l0_1 c0_1], .agg #[.bool b1_0, .slice a1_1 l1_1 c1_1]]) (by kernel_rfl) (D1.ok R _ h (gAgg_intro rfl (uncons_intro (gBool_intro rfl (uncons_intro (gSlice_intro rfl (unnil_intro (gAgg_intro rfl (uncons_intro (gBool_intro rfl (uncons_intro (gSlice_intro rfl (unnil_intro (g))))))))))))))
end num_Sub

namespace gnomonref04_DocOf
noncomputable def C : Code := bodyOf Tryd.f28
def D1.t (R : Rt) (x0 : Int) (h : Hp) : Prop :=
  boxK h 24 T24.zs fun q1 h2 =>
  HC gnomonref04_Of.id #[.int .i64 x0] h2 fun v3 h4 =>
  gAgg v3 fun y5 =>
  uncons y5 fun v6 y6 =>
  gBool v6 fun b_7 =>
  uncons y6 fun v8 y8 =>
  gSlice v8 fun a_9 l_9 c_9 =>
  unnil y8 <| HC gnomonref04_To.id #[.agg #[.bool b_7, .slice a_9 l_9 c_9]] h4 fun v10 h11 =>
  gAgg v10 fun y12 =>
  uncons y12 fun v13 y13 =>
  gBool v13 fun b_14 =>
  uncons y13 fun v15 y15 =>
  gSlice v15 fun a_16 l_16 c_16 =>
  unnil y15 <| stK h11 (q1.add 0) (.bool b_14) fun h17 =>
  stK h17 (q1.add 1) (.slice a_16 l_16 c_16) fun h18 =>
  ldK h18 (q1.add 0) fun v19 =>
  gBool v19 fun b_20 =>
  ldK h18 (q1.add 1) fun v21 =>
  gSlice v21 fun a_22 l_22 c_22 =>
  R (.agg #[.bool b_20, .slice a_22 l_22 c_22]) h18
def D1.g (R : Rt) (fr : Fr) (h : Hp) : Prop := gInt .i64 (fr 0) fun x0 => D1.t R x0 h
theorem D1.ok (R : Rt) (fr : Fr) (h : Hp) (g : D1.g R fr h) : den prog E C (retQ E [.cell 2 24] R) fr h := by
  obtain ⟨x0, e0, g⟩ := gInt_elim g
  exact den_enter [(0, .int .i64 x0)] ⟨e0, trivial⟩ (by kernel_rfl) g
def t (x0 : Int) (h : Hp) (R : Rt) : Prop := D1.t R x0 h
theorem ok {x0 : Int} {h : Hp} {R : Rt} (g : t x0 h R) : HC id #[.int .i64 x0] h R :=
  calls_of_den' envOk (c := C) (rs := [.cell 2 24]) Tryd.func28 (by kernel_rfl) (by kernel_rfl) (by kernel_rfl) (args := [.int .i64 x0]) (by kernel_rfl) (D1.ok R _ h (gInt_intro rfl (g)))
end gnomonref04_DocOf

namespace gnomonref04_To
noncomputable def C : Code := bodyOf Tryd.f29
def D1.t (R : Rt) (b0_0 : Bool) (a0_1 : Option Addr) (l0_1 : Nat) (c0_1 : Nat) (h : Hp) : Prop :=
  boxK h 47 [.bool b0_0, .slice a0_1 l0_1 c0_1] fun q1 h2 =>
  boxK h2 24 T24.zs fun q3 h4 =>
  (q1.add 0).block < h4.size ∧ ldK h4 (q1.add 0) fun v5 =>
  gBool v5 fun b_6 =>
  cond b_6 ((q1.add 1).block < h4.size ∧ ldK h4 (q1.add 1) fun v7 =>
  gSlice v7 fun a_8 l_8 c_8 =>
  (q1.add 1).block < h4.size ∧ ldK h4 (q1.add 1) fun v9 =>
  gSlice v9 fun a_10 l_10 c_10 =>
  HC gnomonref01_To.id #[.slice a_10 l_10 c_10] h4 fun v11 h12 =>
  gSlice v11 fun a_13 l_13 c_13 =>
  (Pre h4.size h4 h12) ∧ stK h12 (q3.add 0) (.bool (decide ((((l_8 : Nat) : Int)) > 0))) fun h14 =>
  stK h14 (q3.add 1) (.slice a_13 l_13 c_13) fun h15 =>
  ldK h15 (q3.add 0) fun v16 =>
  gBool v16 fun b_17 =>
  ldK h15 (q3.add 1) fun v18 =>
  gSlice v18 fun a_19 l_19 c_19 =>
  R (.agg #[.bool b_17, .slice a_19 l_19 c_19]) h15) ((q1.add 1).block < h4.size ∧ ldK h4 (q1.add 1) fun v20 =>
  gSlice v20 fun a_21 l_21 c_21 =>
  HC gnomonref01_To.id #[.slice a_21 l_21 c_21] h4 fun v22 h23 =>
  gSlice v22 fun a_24 l_24 c_24 =>
  (Pre h4.size h4 h23) ∧ stK h23 (q3.add 0) (.bool false) fun h25 =>
  stK h25 (q3.add 1) (.slice a_24 l_24 c_24) fun h26 =>
  ldK h26 (q3.add 0) fun v27 =>
  gBool v27 fun b_28 =>
  ldK h26 (q3.add 1) fun v29 =>
  gSlice v29 fun a_30 l_30 c_30 =>
  R (.agg #[.bool b_28, .slice a_30 l_30 c_30]) h26)
def D1.g (R : Rt) (fr : Fr) (h : Hp) : Prop := gAgg (fr 0) fun z0 => uncons z0 fun w0_0 z0_0 => gBool w0_0 fun b0_0 => uncons z0_0 fun w0_1 z0_1 => gSlice w0_1 fun a0_1 l0_1 c0_1 => unnil z0_1 <| D1.t R b0_0 a0_1 l0_1 c0_1 h
theorem D1.ok (R : Rt) (fr : Fr) (h : Hp) (g : D1.g R fr h) : den prog E C (retQ E [.cell 2 24] R) fr h := by
  obtain ⟨z0, e0, g0_0⟩ := gAgg_elim' g
  obtain ⟨w0_0, z0_0, rfl, g0_0x⟩ := uncons_elim g0_0
  obtain ⟨b0_0, rfl, g0_1⟩ := gBool_elim g0_0x
  obtain ⟨w0_1, z0_1, rfl, g0_1x⟩ := uncons_elim g0_1
  obtain ⟨a0_1, l0_1, c0_1, rfl, g0_2⟩ := gSlice_elim g0_1x
  obtain ⟨rfl, g⟩ := unnil_elim g0_2
  exact den_enter [(0, .agg #[.bool b0_0, .slice a0_1 l0_1 c0_1])] ⟨e0, trivial⟩ (by kernel_rfl) g
def t (b0_0 : Bool) (a0_1 : Option Addr) (l0_1 : Nat) (c0_1 : Nat) (h : Hp) (R : Rt) : Prop := D1.t R b0_0 a0_1 l0_1 c0_1 h
theorem ok {b0_0 : Bool} {a0_1 : Option Addr} {l0_1 : Nat} {c0_1 : Nat} {h : Hp} {R : Rt} (g : t b0_0 a0_1 l0_1 c0_1 h R) : HC id #[.agg #[.bool b0_0, .slice a0_1 l0_1 c0_1]] h R :=
  calls_of_den' envOk (c := C) (rs := [.cell 2 24]) Tryd.func29 (by kernel_rfl) (by kernel_rfl) (by kernel_rfl) (args := [.agg #[.bool b0_0, .slice a0_1 l0_1 c0_1]]) (by kernel_rfl) (D1.ok R _ h (gAgg_intro rfl (uncons_intro (gBool_intro rfl (uncons_intro (gSlice_intro rfl (unnil_intro (g))))))))
end gnomonref04_To

namespace gnomonref04_From
noncomputable def C : Code := bodyOf Tryd.f30
def D1.t (R : Rt) (b0_0 : Bool) (a0_1 : Option Addr) (l0_1 : Nat) (c0_1 : Nat) (h : Hp) : Prop :=
  boxK h 24 [.bool b0_0, .slice a0_1 l0_1 c0_1] fun q1 h2 =>
  boxK h2 47 T47.zs fun q3 h4 =>
  (q1.add 0).block < h4.size ∧ ldK h4 (q1.add 0) fun v5 =>
  gBool v5 fun b_6 =>
  (q1.add 1).block < h4.size ∧ ldK h4 (q1.add 1) fun v7 =>
  gSlice v7 fun a_8 l_8 c_8 =>
  HC gnomonref01_From.id #[.slice a_8 l_8 c_8] h4 fun v9 h10 =>
  gSlice v9 fun a_11 l_11 c_11 =>
  (Pre h4.size h4 h10) ∧ HC gnomonref04_Mk.id #[.bool b_6, .slice a_11 l_11 c_11] h10 fun v12 h13 =>
  gAgg v12 fun y14 =>
  uncons y14 fun v15 y15 =>
  gBool v15 fun b_16 =>
  uncons y15 fun v17 y17 =>
  gSlice v17 fun a_18 l_18 c_18 =>
  unnil y17 <| (Pre h4.size h10 h13) ∧ stK h13 (q3.add 0) (.bool b_16) fun h19 =>
  stK h19 (q3.add 1) (.slice a_18 l_18 c_18) fun h20 =>
  ldK h20 (q3.add 0) fun v21 =>
  gBool v21 fun b_22 =>
  ldK h20 (q3.add 1) fun v23 =>
  gSlice v23 fun a_24 l_24 c_24 =>
  R (.agg #[.bool b_22, .slice a_24 l_24 c_24]) h20
def D1.g (R : Rt) (fr : Fr) (h : Hp) : Prop := gAgg (fr 0) fun z0 => uncons z0 fun w0_0 z0_0 => gBool w0_0 fun b0_0 => uncons z0_0 fun w0_1 z0_1 => gSlice w0_1 fun a0_1 l0_1 c0_1 => unnil z0_1 <| D1.t R b0_0 a0_1 l0_1 c0_1 h
theorem D1.ok (R : Rt) (fr : Fr) (h : Hp) (g : D1.g R fr h) : den prog E C (retQ E [.cell 2 47] R) fr h := by
  obtain ⟨z0, e0, g0_0⟩ := gAgg_elim' g
  obtain ⟨w0_0, z0_0, rfl, g0_0x⟩ := uncons_elim g0_0
  obtain ⟨b0_0, rfl, g0_1⟩ := gBool_elim g0_0x
  obtain ⟨w0_1, z0_1, rfl, g0_1x⟩ := uncons_elim g0_1
  obtain ⟨a0_1, l0_1, c0_1, rfl, g0_2⟩ := gSlice_elim g0_1x
  obtain ⟨rfl, g⟩ := unnil_elim g0_2
  exact den_enter [(0, .agg #[.bool b0_0, .slice a0_1 l0_1 c0_1])] ⟨e0, trivial⟩ (by kernel_rfl) g
def t (b0_0 : Bool) (a0_1 : Option Addr) (l0_1 : Nat) (c0_1 : Nat) (h : Hp) (R : Rt) : Prop := D1.t R b0_0 a0_1 l0_1 c0_1 h
theorem ok {b0_0 : Bool} {a0_1 : Option Addr} {l0_1 : Nat} {c0_1 : Nat} {h : Hp} {R : Rt} (g : t b0_0 a0_1 l0_1 c0_1 h R) : HC id #[.agg #[.bool b0_0, .slice a0_1 l0_1 c0_1]] h R :=
  calls_of_den' envOk (c := C) (rs := [.cell 2 47]) Tryd.func30 (by kernel_rfl) (by kernel_rfl) (by kernel_rfl) (args := [.agg #[.bool b0_0, .slice a0_1 l0_1 c0_1]]) (by kernel_rfl) (D1.ok R _ h (gAgg_intro rfl (uncons_intro (gBool_intro rfl (uncons_intro (gSlice_intro rfl (unnil_intro (g))))))))
end gnomonref04_From

namespace nat_Norm
noncomputable def C : Code := bodyOf Tryd.f31
def D1.t (R : Rt) (a0 : Option Addr) (l0 : Nat) (c0 : Nat) (h : Hp) : Prop :=
  HC nat_trim.id #[.slice a0 l0 c0] h fun v1 h2 =>
  gSlice v1 fun a_3 l_3 c_3 =>
  cond (decide ((((l_3 : Nat) : Int)) > 8192)) (R (.tuple #[.slice none 0 0, .int .i64 5]) h2) (mkK h2 43 T43 (((l_3 : Nat) : Int)) (((l_3 : Nat) : Int)) fun q4 h5 =>
  cpK h5 1 (some q4) ((((l_3 : Nat) : Int)).toNat) (.slice a_3 l_3 c_3) fun n6 h6 =>
  R (.tuple #[.slice (some q4) ((((l_3 : Nat) : Int)).toNat) ((((l_3 : Nat) : Int)).toNat), .int .i64 0]) h6)
def D1.g (R : Rt) (fr : Fr) (h : Hp) : Prop := gSlice (fr 0) fun a0 l0 c0 => D1.t R a0 l0 c0 h
theorem D1.ok (R : Rt) (fr : Fr) (h : Hp) (g : D1.g R fr h) : den prog E C (retQ E [.tmp 2, .tmp 3] R) fr h := by
  obtain ⟨a0, l0, c0, e0, g⟩ := gSlice_elim g
  exact den_enter [(0, .slice a0 l0 c0)] ⟨e0, trivial⟩ (by kernel_rfl) g
def t (a0 : Option Addr) (l0 : Nat) (c0 : Nat) (h : Hp) (R : Rt) : Prop := D1.t R a0 l0 c0 h
theorem ok {a0 : Option Addr} {l0 : Nat} {c0 : Nat} {h : Hp} {R : Rt} (g : t a0 l0 c0 h R) : HC id #[.slice a0 l0 c0] h R :=
  calls_of_den' envOk (c := C) (rs := [.tmp 2, .tmp 3]) Tryd.func31 (by kernel_rfl) (by kernel_rfl) (by kernel_rfl) (args := [.slice a0 l0 c0]) (by kernel_rfl) (D1.ok R _ h (gSlice_intro rfl (g)))
end nat_Norm

namespace num_told
noncomputable def C : Code := bodyOf Tryd.f32
def D1.t (R : Rt) (b0 : Bool) (a1 : Option Addr) (l1 : Nat) (c1 : Nat) (x2 : Int) (h : Hp) : Prop :=
  boxK h 24 T24.zs fun q1 h2 =>
  cond (x2 != 0) (stK h2 (q1.add 0) (.bool false) fun h3 =>
  stK h3 (q1.add 1) (.slice none 0 0) fun h4 =>
  ldK h4 (q1.add 0) fun v5 =>
  gBool v5 fun b_6 =>
  ldK h4 (q1.add 1) fun v7 =>
  gSlice v7 fun a_8 l_8 c_8 =>
  R (.tuple #[.agg #[.bool b_6, .slice a_8 l_8 c_8], .int .i64 x2]) h4) (HC num_whole.id #[.bool b0, .slice a1 l1 c1] h2 fun v9 h10 =>
  gAgg v9 fun y11 =>
  uncons y11 fun v12 y12 =>
  gBool v12 fun b_13 =>
  uncons y12 fun v14 y14 =>
  gSlice v14 fun a_15 l_15 c_15 =>
  unnil y14 <| stK h10 (q1.add 0) (.bool b_13) fun h16 =>
  stK h16 (q1.add 1) (.slice a_15 l_15 c_15) fun h17 =>
  ldK h17 (q1.add 0) fun v18 =>
  gBool v18 fun b_19 =>
  ldK h17 (q1.add 1) fun v20 =>
  gSlice v20 fun a_21 l_21 c_21 =>
  R (.tuple #[.agg #[.bool b_19, .slice a_21 l_21 c_21], .int .i64 0]) h17)
def D1.g (R : Rt) (fr : Fr) (h : Hp) : Prop := gBool (fr 0) fun b0 => gSlice (fr 1) fun a1 l1 c1 => gInt .i64 (fr 2) fun x2 => D1.t R b0 a1 l1 c1 x2 h
theorem D1.ok (R : Rt) (fr : Fr) (h : Hp) (g : D1.g R fr h) : den prog E C (retQ E [.cell 6 24, .tmp 7] R) fr h := by
  obtain ⟨b0, e0, g⟩ := gBool_elim g
  obtain ⟨a1, l1, c1, e1, g⟩ := gSlice_elim g
  obtain ⟨x2, e2, g⟩ := gInt_elim g
  exact den_enter [(0, .bool b0), (1, .slice a1 l1 c1), (2, .int .i64 x2)] ⟨e0, e1, e2, trivial⟩ (by kernel_rfl) g
def t (b0 : Bool) (a1 : Option Addr) (l1 : Nat) (c1 : Nat) (x2 : Int) (h : Hp) (R : Rt) : Prop := D1.t R b0 a1 l1 c1 x2 h
theorem ok {b0 : Bool} {a1 : Option Addr} {l1 : Nat} {c1 : Nat} {x2 : Int} {h : Hp} {R : Rt} (g : t b0 a1 l1 c1 x2 h R) : HC id #[.bool b0, .slice a1 l1 c1, .int .i64 x2] h R :=
  calls_of_den' envOk (c := C) (rs := [.cell 6 24, .tmp 7]) Tryd.func32 (by kernel_rfl) (by kernel_rfl) (by kernel_rfl) (args := [.bool b0, .slice a1 l1 c1, .int .i64 x2]) (by kernel_rfl) (D1.ok R _ h (gBool_intro rfl (gSlice_intro rfl (gInt_intro rfl (g)))))
end num_told

namespace gnomonref01_Same
noncomputable def C : Code := bodyOf Tryd.f33
def D2.t (R : Rt)  (h : Hp) : Prop :=
  R (.bool true) h
def D2.g (R : Rt) (fr : Fr) (h : Hp) : Prop := D2.t R  h
theorem D2.ok (R : Rt) (fr : Fr) (h : Hp) (g : D2.g R fr h) : den prog E (cAt C [true, true, true]) (retQ E [.tmp 4] R) fr h := by
  exact den_enter [] trivial (by kernel_rfl) g
def L4.g (N : Option Addr → Nat → Nat → Option Addr → Nat → Nat → Int → Hp → Prop) (fr : Fr) (h : Hp) : Prop := gSlice (fr 0) fun a0 l0 c0 => gSlice (fr 1) fun a1 l1 c1 => gInt .i64 (fr 5) fun x5 => N a0 l0 c0 a1 l1 c1 x5 h
def D5.t (R : Rt) (N4 : Option Addr → Nat → Nat → Option Addr → Nat → Nat → Int → Hp → Prop) (a0 : Option Addr) (l0 : Nat) (c0 : Nat) (a1 : Option Addr) (l1 : Nat) (c1 : Nat) (x5 : Int) (h : Hp) : Prop :=
  cond (decide (x5 < (((l0 : Nat) : Int)))) (idxK a0 l0 x5 1 fun q1 =>
  ldK h q1 fun v2 =>
  gInt .u64 v2 fun x_3 =>
  idxK a1 l1 x5 1 fun q4 =>
  ldK h q4 fun v5 =>
  gInt .u64 v5 fun x_6 =>
  cond (x_3 != x_6) (R (.bool false) h) (letK (IntKind.i64.wrap (x5 + 1)) fun n7 =>
  N4 a0 l0 c0 a1 l1 c1 n7 h)) (D2.t R h)
def D5.g (R : Rt) (N4 : Option Addr → Nat → Nat → Option Addr → Nat → Nat → Int → Hp → Prop) (fr : Fr) (h : Hp) : Prop := gSlice (fr 0) fun a0 l0 c0 => gSlice (fr 1) fun a1 l1 c1 => gInt .i64 (fr 5) fun x5 => D5.t R N4 a0 l0 c0 a1 l1 c1 x5 h
theorem D5.ok (R : Rt) (N4 : Option Addr → Nat → Nat → Option Addr → Nat → Nat → Int → Hp → Prop) (fr : Fr) (h : Hp) (g : D5.g R N4 fr h) : den prog E (cAt C [true, true, false, true, false, false]) (Ex.then (L4.g N4) (Ex.inBlock 0 (Ex.then (D2.g R) (retQ E [.tmp 4] R)))) fr h := by
  obtain ⟨a0, l0, c0, e0, g⟩ := gSlice_elim g
  obtain ⟨a1, l1, c1, e1, g⟩ := gSlice_elim g
  obtain ⟨x5, e5, g⟩ := gInt_elim g
  exact den_enter [(0, .slice a0 l0 c0), (1, .slice a1 l1 c1), (5, .int .i64 x5)] ⟨e0, e1, e5, trivial⟩ (by kernel_rfl) g
def L4.t (R : Rt) : Nat → Option Addr → Nat → Nat → Option Addr → Nat → Nat → Int → Hp → Prop
  | 0 => fun _ _ _ _ _ _ _ _ => False
  | n + 1 => fun a0 l0 c0 a1 l1 c1 x5 h => D5.t R (L4.t R n) a0 l0 c0 a1 l1 c1 x5 h
theorem L4.ok (R : Rt) (fr : Fr) (h : Hp) (g : L4.g (fun a0 l0 c0 a1 l1 c1 x5 h => ∃ n, L4.t R n a0 l0 c0 a1 l1 c1 x5 h) fr h) : den prog E (cAt C [true, true, false, true, false]) (Ex.inBlock 0 (Ex.then (D2.g R) (retQ E [.tmp 4] R))) fr h := by
  obtain ⟨a0, l0, c0, e0, g⟩ := gSlice_elim g
  obtain ⟨a1, l1, c1, e1, g⟩ := gSlice_elim g
  obtain ⟨x5, e5, g⟩ := gInt_elim g
  obtain ⟨n, g⟩ := g
  refine loop_ok (fun n => L4.g (L4.t R n)) (b := (cAt C [true, true, false, true, false, false])) (by kernel_rfl) (fun fr h g => ?_) (fun n => D5.ok R (L4.t R n)) n fr h (gSlice_intro e0 (gSlice_intro e1 (gInt_intro e5 (g))))
  obtain ⟨a0, l0, c0, e0, g⟩ := gSlice_elim g
  obtain ⟨a1, l1, c1, e1, g⟩ := gSlice_elim g
  obtain ⟨x5, e5, g⟩ := gInt_elim g
  exact g
theorem B6.ok (R : Rt) (fr : Fr) (h : Hp) (g : L4.g (fun a0 l0 c0 a1 l1 c1 x5 h => ∃ n, L4.t R n a0 l0 c0 a1 l1 c1 x5 h) fr h) : den prog E (cAt C [true, true, false, true]) (Ex.then (D2.g R) (retQ E [.tmp 4] R)) fr h :=
  den_block (by kernel_rfl) (L4.ok R fr h g)
def D3.t (R : Rt) (a0 : Option Addr) (l0 : Nat) (c0 : Nat) (a1 : Option Addr) (l1 : Nat) (c1 : Nat) (h : Hp) : Prop :=
  (∃ n, L4.t R n a0 l0 c0 a1 l1 c1 0 h)
def D3.g (R : Rt) (fr : Fr) (h : Hp) : Prop := gSlice (fr 0) fun a0 l0 c0 => gSlice (fr 1) fun a1 l1 c1 => D3.t R a0 l0 c0 a1 l1 c1 h
theorem D3.ok (R : Rt) (fr : Fr) (h : Hp) (g : D3.g R fr h) : den prog E (cAt C [true, true, false]) (Ex.then (D2.g R) (retQ E [.tmp 4] R)) fr h := by
  obtain ⟨a0, l0, c0, e0, g⟩ := gSlice_elim g
  obtain ⟨a1, l1, c1, e1, g⟩ := gSlice_elim g
  exact den_cut 1 (r := (cAt C [true, true, false, true])) (by kernel_rfl) (B6.ok R) (den_enter [(0, .slice a0 l0 c0), (1, .slice a1 l1 c1)] ⟨e0, e1, trivial⟩ (by kernel_rfl) g)
theorem W7.ok (R : Rt) (fr : Fr) (h : Hp) (g : D3.g R fr h) : den prog E (cAt C [true, true]) (retQ E [.tmp 4] R) fr h :=
  den_then (by kernel_rfl) (D2.ok R) (D3.ok R fr h g)
def D1.t (R : Rt) (a0 : Option Addr) (l0 : Nat) (c0 : Nat) (a1 : Option Addr) (l1 : Nat) (c1 : Nat) (h : Hp) : Prop :=
  cond ((((l0 : Nat) : Int)) != (((l1 : Nat) : Int))) (R (.bool false) h) (D3.t R a0 l0 c0 a1 l1 c1 h)
def D1.g (R : Rt) (fr : Fr) (h : Hp) : Prop := gSlice (fr 0) fun a0 l0 c0 => gSlice (fr 1) fun a1 l1 c1 => D1.t R a0 l0 c0 a1 l1 c1 h
theorem D1.ok (R : Rt) (fr : Fr) (h : Hp) (g : D1.g R fr h) : den prog E C (retQ E [.tmp 4] R) fr h := by
  obtain ⟨a0, l0, c0, e0, g⟩ := gSlice_elim g
  obtain ⟨a1, l1, c1, e1, g⟩ := gSlice_elim g
  exact den_cut 2 (r := (cAt C [true, true])) (by kernel_rfl) (W7.ok R) (den_enter [(0, .slice a0 l0 c0), (1, .slice a1 l1 c1)] ⟨e0, e1, trivial⟩ (by kernel_rfl) g)
def t (a0 : Option Addr) (l0 : Nat) (c0 : Nat) (a1 : Option Addr) (l1 : Nat) (c1 : Nat) (h : Hp) (R : Rt) : Prop := D1.t R a0 l0 c0 a1 l1 c1 h
theorem ok {a0 : Option Addr} {l0 : Nat} {c0 : Nat} {a1 : Option Addr} {l1 : Nat} {c1 : Nat} {h : Hp} {R : Rt} (g : t a0 l0 c0 a1 l1 c1 h R) : HC id #[.slice a0 l0 c0, .slice a1 l1 c1] h R :=
  calls_of_den' envOk (c := C) (rs := [.tmp 4]) Tryd.func33 (by kernel_rfl) (by kernel_rfl) (by kernel_rfl) (args := [.slice a0 l0 c0, .slice a1 l1 c1]) (by kernel_rfl) (D1.ok R _ h (gSlice_intro rfl (gSlice_intro rfl (g))))
end gnomonref01_Same

namespace nat_Bits
noncomputable def C : Code := bodyOf Tryd.f34
def D1.t (R : Rt) (a0 : Option Addr) (l0 : Nat) (c0 : Nat) (h : Hp) : Prop :=
  HC nat_trim.id #[.slice a0 l0 c0] h fun v1 h2 =>
  gSlice v1 fun a_3 l_3 c_3 =>
  cond ((((l_3 : Nat) : Int)) == 0) (R (.int .i64 0) h2) (letK (IntKind.i64.wrap ((((l_3 : Nat) : Int)) - 1)) fun n4 =>
  letK (IntKind.i64.wrap (64 * n4)) fun n5 =>
  letK (IntKind.i64.wrap ((((l_3 : Nat) : Int)) - 1)) fun n6 =>
  idxK a_3 l_3 n6 1 fun q7 =>
  ldK h2 q7 fun v8 =>
  gInt .u64 v8 fun x_9 =>
  HC bits_Len64.id #[.int .u64 x_9] h2 fun v10 h11 =>
  gInt .i64 v10 fun x_12 =>
  letK (IntKind.i64.wrap (n5 + x_12)) fun n13 =>
  R (.int .i64 n13) h11)
def D1.g (R : Rt) (fr : Fr) (h : Hp) : Prop := gSlice (fr 0) fun a0 l0 c0 => D1.t R a0 l0 c0 h
theorem D1.ok (R : Rt) (fr : Fr) (h : Hp) (g : D1.g R fr h) : den prog E C (retQ E [.tmp 2] R) fr h := by
  obtain ⟨a0, l0, c0, e0, g⟩ := gSlice_elim g
  exact den_enter [(0, .slice a0 l0 c0)] ⟨e0, trivial⟩ (by kernel_rfl) g
def t (a0 : Option Addr) (l0 : Nat) (c0 : Nat) (h : Hp) (R : Rt) : Prop := D1.t R a0 l0 c0 h
theorem ok {a0 : Option Addr} {l0 : Nat} {c0 : Nat} {h : Hp} {R : Rt} (g : t a0 l0 c0 h R) : HC id #[.slice a0 l0 c0] h R :=
  calls_of_den' envOk (c := C) (rs := [.tmp 2]) Tryd.func34 (by kernel_rfl) (by kernel_rfl) (by kernel_rfl) (args := [.slice a0 l0 c0]) (by kernel_rfl) (D1.ok R _ h (gSlice_intro rfl (g)))
end nat_Bits

namespace num_way_shr
noncomputable def C : Code := bodyOf Tryd.f35
def D3.t (R : Rt) (x0 : Int) (q4 : Addr) (q6 : Addr) (a8 : Option Addr) (l8 : Nat) (c8 : Nat) (b10 : Bool) (x11 : Int) (h : Hp) : Prop :=
  ldK h (q4.add 0) fun v58 =>
  gBool v58 fun b_59 =>
  HC num_way_made.id #[.int .i64 x0, .bool b_59, .slice a8 l8 c8, .bool b10, .int .i64 x11] h fun v60 h61 =>
  gTup v60 fun y62 =>
  uncons y62 fun v63 y63 =>
  gAgg v63 fun y64 =>
  uncons y64 fun v65 y65 =>
  gBool v65 fun b_66 =>
  uncons y65 fun v67 y67 =>
  gSlice v67 fun a_68 l_68 c_68 =>
  unnil y67 <| uncons y63 fun v69 y69 =>
  gInt .i64 v69 fun x_70 =>
  unnil y69 <| stK h61 (q6.add 0) (.bool b_66) fun h71 =>
  stK h71 (q6.add 1) (.slice a_68 l_68 c_68) fun h72 =>
  ldK h72 (q6.add 0) fun v73 =>
  gBool v73 fun b_74 =>
  ldK h72 (q6.add 1) fun v75 =>
  gSlice v75 fun a_76 l_76 c_76 =>
  R (.tuple #[.agg #[.bool b_74, .slice a_76 l_76 c_76], .int .i64 x_70]) h72
def D3.g (R : Rt) (fr : Fr) (h : Hp) : Prop := gInt .i64 (fr 0) fun x0 => gPtrS (fr 4) fun q4 => gPtrS (fr 6) fun q6 => gSlice (fr 8) fun a8 l8 c8 => gBool (fr 10) fun b10 => gInt .i64 (fr 11) fun x11 => D3.t R x0 q4 q6 a8 l8 c8 b10 x11 h
theorem D3.ok (R : Rt) (fr : Fr) (h : Hp) (g : D3.g R fr h) : den prog E (cAt C [true, true, true, true, true, true, true, true]) (retQ E [.cell 6 24, .tmp 7] R) fr h := by
  obtain ⟨x0, e0, g⟩ := gInt_elim g
  obtain ⟨q4, e4, g⟩ := gPtrS_elim g
  obtain ⟨q6, e6, g⟩ := gPtrS_elim g
  obtain ⟨a8, l8, c8, e8, g⟩ := gSlice_elim g
  obtain ⟨b10, e10, g⟩ := gBool_elim g
  obtain ⟨x11, e11, g⟩ := gInt_elim g
  exact den_enter [(0, .int .i64 x0), (4, .pointer (some q4)), (6, .pointer (some q6)), (8, .slice a8 l8 c8), (10, .bool b10), (11, .int .i64 x11)] ⟨e0, e4, e6, e8, e10, e11, trivial⟩ (by kernel_rfl) g
def D2.t (R : Rt) (x0 : Int) (x2 : Int) (q4 : Addr) (q6 : Addr) (a8 : Option Addr) (l8 : Nat) (c8 : Nat) (b10 : Bool) (h : Hp) : Prop :=
  ldK h (q4.add 1) fun v46 =>
  gSlice v46 fun a_47 l_47 c_47 =>
  letK (IntKind.i64.wrap (x2 - 1)) fun n48 =>
  HC nat_Bit.id #[.slice a_47 l_47 c_47, .int .i64 n48] h fun v49 h50 =>
  gBool v49 fun b_51 =>
  cond b_51 (ldK h50 (q4.add 1) fun v52 =>
  gSlice v52 fun a_53 l_53 c_53 =>
  HC nat_Trail.id #[.slice a_53 l_53 c_53] h50 fun v54 h55 =>
  gInt .i64 v54 fun x_56 =>
  letK (IntKind.i64.wrap (x2 - 1)) fun n57 =>
  cond (x_56 == n57) (D3.t R x0 q4 q6 a8 l8 c8 b10 0 h55) (D3.t R x0 q4 q6 a8 l8 c8 b10 1 h55)) (D3.t R x0 q4 q6 a8 l8 c8 b10 (-1) h50)
def D2.g (R : Rt) (fr : Fr) (h : Hp) : Prop := gInt .i64 (fr 0) fun x0 => gInt .i64 (fr 2) fun x2 => gPtrS (fr 4) fun q4 => gPtrS (fr 6) fun q6 => gSlice (fr 8) fun a8 l8 c8 => gBool (fr 10) fun b10 => D2.t R x0 x2 q4 q6 a8 l8 c8 b10 h
theorem D2.ok (R : Rt) (fr : Fr) (h : Hp) (g : D2.g R fr h) : den prog E (cAt C [true, true, true, true, true, true]) (retQ E [.cell 6 24, .tmp 7] R) fr h := by
  obtain ⟨x0, e0, g⟩ := gInt_elim g
  obtain ⟨x2, e2, g⟩ := gInt_elim g
  obtain ⟨q4, e4, g⟩ := gPtrS_elim g
  obtain ⟨q6, e6, g⟩ := gPtrS_elim g
  obtain ⟨a8, l8, c8, e8, g⟩ := gSlice_elim g
  obtain ⟨b10, e10, g⟩ := gBool_elim g
  exact den_cut 2 (r := (cAt C [true, true, true, true, true, true, true, true])) (by kernel_rfl) (D3.ok R) (den_enter [(0, .int .i64 x0), (2, .int .i64 x2), (4, .pointer (some q4)), (6, .pointer (some q6)), (8, .slice a8 l8 c8), (10, .bool b10)] ⟨e0, e2, e4, e6, e8, e10, trivial⟩ (by kernel_rfl) g)
def D1.t (R : Rt) (x0 : Int) (b1_0 : Bool) (a1_1 : Option Addr) (l1_1 : Nat) (c1_1 : Nat) (x2 : Int) (h : Hp) : Prop :=
  boxK h 24 [.bool b1_0, .slice a1_1 l1_1 c1_1] fun q1 h2 =>
  boxK h2 24 T24.zs fun q3 h4 =>
  cond (decide (x2 < 0)) (stK h4 (q3.add 0) (.bool false) fun h5 =>
  stK h5 (q3.add 1) (.slice none 0 0) fun h6 =>
  ldK h6 (q3.add 0) fun v7 =>
  gBool v7 fun b_8 =>
  ldK h6 (q3.add 1) fun v9 =>
  gSlice v9 fun a_10 l_10 c_10 =>
  R (.tuple #[.agg #[.bool b_8, .slice a_10 l_10 c_10], .int .i64 1]) h6) (ldK h4 (q1.add 0) fun v11 =>
  gBool v11 fun b_12 =>
  ldK h4 (q1.add 1) fun v13 =>
  gSlice v13 fun a_14 l_14 c_14 =>
  HC num_Form.id #[.agg #[.bool b_12, .slice a_14 l_14 c_14]] h4 fun v15 h16 =>
  gBool v15 fun b_17 =>
  cond (!b_17) (stK h16 (q3.add 0) (.bool false) fun h18 =>
  stK h18 (q3.add 1) (.slice none 0 0) fun h19 =>
  ldK h19 (q3.add 0) fun v20 =>
  gBool v20 fun b_21 =>
  ldK h19 (q3.add 1) fun v22 =>
  gSlice v22 fun a_23 l_23 c_23 =>
  R (.tuple #[.agg #[.bool b_21, .slice a_23 l_23 c_23], .int .i64 2]) h19) (ldK h16 (q1.add 1) fun v24 =>
  gSlice v24 fun a_25 l_25 c_25 =>
  HC nat_Shr.id #[.slice a_25 l_25 c_25, .int .i64 x2] h16 fun v26 h27 =>
  gTup v26 fun y28 =>
  uncons y28 fun v29 y29 =>
  gSlice v29 fun a_30 l_30 c_30 =>
  uncons y29 fun v31 y31 =>
  gInt .i64 v31 fun x_32 =>
  unnil y31 <| cond (x_32 != 0) (stK h27 (q3.add 0) (.bool false) fun h33 =>
  stK h33 (q3.add 1) (.slice none 0 0) fun h34 =>
  ldK h34 (q3.add 0) fun v35 =>
  gBool v35 fun b_36 =>
  ldK h34 (q3.add 1) fun v37 =>
  gSlice v37 fun a_38 l_38 c_38 =>
  R (.tuple #[.agg #[.bool b_36, .slice a_38 l_38 c_38], .int .i64 x_32]) h34) (ldK h27 (q1.add 1) fun v39 =>
  gSlice v39 fun a_40 l_40 c_40 =>
  cond (decide ((((l_40 : Nat) : Int)) > 0)) (ldK h27 (q1.add 1) fun v41 =>
  gSlice v41 fun a_42 l_42 c_42 =>
  HC nat_Trail.id #[.slice a_42 l_42 c_42] h27 fun v43 h44 =>
  gInt .i64 v43 fun x_45 =>
  D2.t R x0 x2 q1 q3 a_30 l_30 c_30 (decide (x_45 < x2)) h44) (D2.t R x0 x2 q1 q3 a_30 l_30 c_30 false h27))))
def D1.g (R : Rt) (fr : Fr) (h : Hp) : Prop := gInt .i64 (fr 0) fun x0 => gAgg (fr 1) fun z1 => uncons z1 fun w1_0 z1_0 => gBool w1_0 fun b1_0 => uncons z1_0 fun w1_1 z1_1 => gSlice w1_1 fun a1_1 l1_1 c1_1 => unnil z1_1 <| gInt .i64 (fr 2) fun x2 => D1.t R x0 b1_0 a1_1 l1_1 c1_1 x2 h
theorem D1.ok (R : Rt) (fr : Fr) (h : Hp) (g : D1.g R fr h) : den prog E C (retQ E [.cell 6 24, .tmp 7] R) fr h := by
  obtain ⟨x0, e0, g⟩ := gInt_elim g
  obtain ⟨z1, e1, g1_0⟩ := gAgg_elim' g
  obtain ⟨w1_0, z1_0, rfl, g1_0x⟩ := uncons_elim g1_0
  obtain ⟨b1_0, rfl, g1_1⟩ := gBool_elim g1_0x
  obtain ⟨w1_1, z1_1, rfl, g1_1x⟩ := uncons_elim g1_1
  obtain ⟨a1_1, l1_1, c1_1, rfl, g1_2⟩ := gSlice_elim g1_1x
  obtain ⟨rfl, g⟩ := unnil_elim g1_2
  obtain ⟨x2, e2, g⟩ := gInt_elim g
  exact den_cut 6 (r := (cAt C [true, true, true, true, true, true])) (by kernel_rfl) (D2.ok R) (den_enter [(0, .int .i64 x0), (1, .agg #[.bool b1_0, .slice a1_1 l1_1 c1_1]), (2, .int .i64 x2)] ⟨e0, e1, e2, trivial⟩ (by kernel_rfl) g)
def t (x0 : Int) (b1_0 : Bool) (a1_1 : Option Addr) (l1_1 : Nat) (c1_1 : Nat) (x2 : Int) (h : Hp) (R : Rt) : Prop := D1.t R x0 b1_0 a1_1 l1_1 c1_1 x2 h
theorem ok {x0 : Int} {b1_0 : Bool} {a1_1 : Option Addr} {l1_1 : Nat} {c1_1 : Nat} {x2 : Int} {h : Hp} {R : Rt} (g : t x0 b1_0 a1_1 l1_1 c1_1 x2 h R) : HC id #[.int .i64 x0, .agg #[.bool b1_0, .slice a1_1 l1_1 c1_1], .int .i64 x2] h R :=
  calls_of_den' envOk (c := C) (rs := [.cell 6 24, .tmp 7]) Tryd.func35 (by kernel_rfl) (by kernel_rfl) (by kernel_rfl) (args := [.int .i64 x0, .agg #[.bool b1_0, .slice a1_1 l1_1 c1_1], .int .i64 x2]) (by kernel_rfl) (D1.ok R _ h (gInt_intro rfl (gAgg_intro rfl (uncons_intro (gBool_intro rfl (uncons_intro (gSlice_intro rfl (unnil_intro (gInt_intro rfl (g))))))))))
end num_way_shr

namespace num_way_div
noncomputable def C : Code := bodyOf Tryd.f36
def D2.t (R : Rt) (x0 : Int) (q4 : Addr) (q5 : Addr) (q6 : Addr) (h : Hp) : Prop :=
  ldK h (q5.add 1) fun v33 =>
  gSlice v33 fun a_34 l_34 c_34 =>
  cond ((((l_34 : Nat) : Int)) == 0) (stK h (q6.add 0) (.bool false) fun h35 =>
  stK h35 (q6.add 1) (.slice none 0 0) fun h36 =>
  ldK h36 (q6.add 0) fun v37 =>
  gBool v37 fun b_38 =>
  ldK h36 (q6.add 1) fun v39 =>
  gSlice v39 fun a_40 l_40 c_40 =>
  R (.tuple #[.agg #[.bool b_38, .slice a_40 l_40 c_40], .int .i64 4]) h36) (ldK h (q4.add 1) fun v41 =>
  gSlice v41 fun a_42 l_42 c_42 =>
  ldK h (q5.add 1) fun v43 =>
  gSlice v43 fun a_44 l_44 c_44 =>
  HC natdiv_QuoRem.id #[.slice a_42 l_42 c_42, .slice a_44 l_44 c_44] h fun v45 h46 =>
  gTup v45 fun y47 =>
  uncons y47 fun v48 y48 =>
  gSlice v48 fun a_49 l_49 c_49 =>
  uncons y48 fun v50 y50 =>
  gSlice v50 fun a_51 l_51 c_51 =>
  uncons y50 fun v52 y52 =>
  gInt .i64 v52 fun x_53 =>
  unnil y52 <| cond (x_53 != 0) (stK h46 (q6.add 0) (.bool false) fun h54 =>
  stK h54 (q6.add 1) (.slice none 0 0) fun h55 =>
  ldK h55 (q6.add 0) fun v56 =>
  gBool v56 fun b_57 =>
  ldK h55 (q6.add 1) fun v58 =>
  gSlice v58 fun a_59 l_59 c_59 =>
  R (.tuple #[.agg #[.bool b_57, .slice a_59 l_59 c_59], .int .i64 x_53]) h55) (ldK h46 (q5.add 1) fun v60 =>
  gSlice v60 fun a_61 l_61 c_61 =>
  HC nat_Sub.id #[.slice a_61 l_61 c_61, .slice a_51 l_51 c_51] h46 fun v62 h63 =>
  gTup v62 fun y64 =>
  uncons y64 fun v65 y65 =>
  gSlice v65 fun a_66 l_66 c_66 =>
  uncons y65 fun v67 y67 =>
  gInt .i64 v67 fun x_68 =>
  unnil y67 <| cond (x_68 != 0) (stK h63 (q6.add 0) (.bool false) fun h69 =>
  stK h69 (q6.add 1) (.slice none 0 0) fun h70 =>
  ldK h70 (q6.add 0) fun v71 =>
  gBool v71 fun b_72 =>
  ldK h70 (q6.add 1) fun v73 =>
  gSlice v73 fun a_74 l_74 c_74 =>
  R (.tuple #[.agg #[.bool b_72, .slice a_74 l_74 c_74], .int .i64 x_68]) h70) ((q4.add 0).block < h63.size ∧ ldK h63 (q4.add 0) fun v75 =>
  gBool v75 fun b_76 =>
  (q5.add 0).block < h63.size ∧ ldK h63 (q5.add 0) fun v77 =>
  gBool v77 fun b_78 =>
  HC nat_Cmp.id #[.slice a_51 l_51 c_51, .slice a_66 l_66 c_66] h63 fun v79 h80 =>
  gInt .i64 v79 fun x_81 =>
  (Pre h63.size h63 h80) ∧ HC num_way_made.id #[.int .i64 x0, .bool (!(b_76 == b_78)), .slice a_49 l_49 c_49, .bool (decide ((((l_51 : Nat) : Int)) > 0)), .int .i64 x_81] h80 fun v82 h83 =>
  gTup v82 fun y84 =>
  uncons y84 fun v85 y85 =>
  gAgg v85 fun y86 =>
  uncons y86 fun v87 y87 =>
  gBool v87 fun b_88 =>
  uncons y87 fun v89 y89 =>
  gSlice v89 fun a_90 l_90 c_90 =>
  unnil y89 <| uncons y85 fun v91 y91 =>
  gInt .i64 v91 fun x_92 =>
  unnil y91 <| (Pre h63.size h80 h83) ∧ stK h83 (q6.add 0) (.bool b_88) fun h93 =>
  stK h93 (q6.add 1) (.slice a_90 l_90 c_90) fun h94 =>
  ldK h94 (q6.add 0) fun v95 =>
  gBool v95 fun b_96 =>
  ldK h94 (q6.add 1) fun v97 =>
  gSlice v97 fun a_98 l_98 c_98 =>
  R (.tuple #[.agg #[.bool b_96, .slice a_98 l_98 c_98], .int .i64 x_92]) h94)))
def D2.g (R : Rt) (fr : Fr) (h : Hp) : Prop := gInt .i64 (fr 0) fun x0 => gPtrS (fr 4) fun q4 => gPtrS (fr 5) fun q5 => gPtrS (fr 6) fun q6 => D2.t R x0 q4 q5 q6 h
theorem D2.ok (R : Rt) (fr : Fr) (h : Hp) (g : D2.g R fr h) : den prog E (cAt C [true, true]) (retQ E [.cell 6 24, .tmp 7] R) fr h := by
  obtain ⟨x0, e0, g⟩ := gInt_elim g
  obtain ⟨q4, e4, g⟩ := gPtrS_elim g
  obtain ⟨q5, e5, g⟩ := gPtrS_elim g
  obtain ⟨q6, e6, g⟩ := gPtrS_elim g
  exact den_enter [(0, .int .i64 x0), (4, .pointer (some q4)), (5, .pointer (some q5)), (6, .pointer (some q6))] ⟨e0, e4, e5, e6, trivial⟩ (by kernel_rfl) g
def D1.t (R : Rt) (x0 : Int) (b1_0 : Bool) (a1_1 : Option Addr) (l1_1 : Nat) (c1_1 : Nat) (b2_0 : Bool) (a2_1 : Option Addr) (l2_1 : Nat) (c2_1 : Nat) (h : Hp) : Prop :=
  boxK h 24 [.bool b1_0, .slice a1_1 l1_1 c1_1] fun q1 h2 =>
  boxK h2 24 [.bool b2_0, .slice a2_1 l2_1 c2_1] fun q3 h4 =>
  boxK h4 24 T24.zs fun q5 h6 =>
  ldK h6 (q1.add 0) fun v7 =>
  gBool v7 fun b_8 =>
  ldK h6 (q1.add 1) fun v9 =>
  gSlice v9 fun a_10 l_10 c_10 =>
  HC num_Form.id #[.agg #[.bool b_8, .slice a_10 l_10 c_10]] h6 fun v11 h12 =>
  gBool v11 fun b_13 =>
  cond (!b_13) (stK h12 (q5.add 0) (.bool false) fun h14 =>
  stK h14 (q5.add 1) (.slice none 0 0) fun h15 =>
  ldK h15 (q5.add 0) fun v16 =>
  gBool v16 fun b_17 =>
  ldK h15 (q5.add 1) fun v18 =>
  gSlice v18 fun a_19 l_19 c_19 =>
  R (.tuple #[.agg #[.bool b_17, .slice a_19 l_19 c_19], .int .i64 2]) h15) (ldK h12 (q3.add 0) fun v20 =>
  gBool v20 fun b_21 =>
  ldK h12 (q3.add 1) fun v22 =>
  gSlice v22 fun a_23 l_23 c_23 =>
  HC num_Form.id #[.agg #[.bool b_21, .slice a_23 l_23 c_23]] h12 fun v24 h25 =>
  gBool v24 fun b_26 =>
  cond (!b_26) (stK h25 (q5.add 0) (.bool false) fun h27 =>
  stK h27 (q5.add 1) (.slice none 0 0) fun h28 =>
  ldK h28 (q5.add 0) fun v29 =>
  gBool v29 fun b_30 =>
  ldK h28 (q5.add 1) fun v31 =>
  gSlice v31 fun a_32 l_32 c_32 =>
  R (.tuple #[.agg #[.bool b_30, .slice a_32 l_32 c_32], .int .i64 2]) h28) (D2.t R x0 q1 q3 q5 h25))
def D1.g (R : Rt) (fr : Fr) (h : Hp) : Prop := gInt .i64 (fr 0) fun x0 => gAgg (fr 1) fun z1 => uncons z1 fun w1_0 z1_0 => gBool w1_0 fun b1_0 => uncons z1_0 fun w1_1 z1_1 => gSlice w1_1 fun a1_1 l1_1 c1_1 => unnil z1_1 <| gAgg (fr 2) fun z2 => uncons z2 fun w2_0 z2_0 => gBool w2_0 fun b2_0 => uncons z2_0 fun w2_1 z2_1 => gSlice w2_1 fun a2_1 l2_1 c2_1 => unnil z2_1 <| D1.t R x0 b1_0 a1_1 l1_1 c1_1 b2_0 a2_1 l2_1 c2_1 h
theorem D1.ok (R : Rt) (fr : Fr) (h : Hp) (g : D1.g R fr h) : den prog E C (retQ E [.cell 6 24, .tmp 7] R) fr h := by
  obtain ⟨x0, e0, g⟩ := gInt_elim g
  obtain ⟨z1, e1, g1_0⟩ := gAgg_elim' g
  obtain ⟨w1_0, z1_0, rfl, g1_0x⟩ := uncons_elim g1_0
  obtain ⟨b1_0, rfl, g1_1⟩ := gBool_elim g1_0x
  obtain ⟨w1_1, z1_1, rfl, g1_1x⟩ := uncons_elim g1_1
  obtain ⟨a1_1, l1_1, c1_1, rfl, g1_2⟩ := gSlice_elim g1_1x
  obtain ⟨rfl, g⟩ := unnil_elim g1_2
  obtain ⟨z2, e2, g2_0⟩ := gAgg_elim' g
  obtain ⟨w2_0, z2_0, rfl, g2_0x⟩ := uncons_elim g2_0
  obtain ⟨b2_0, rfl, g2_1⟩ := gBool_elim g2_0x
  obtain ⟨w2_1, z2_1, rfl, g2_1x⟩ := uncons_elim g2_1
  obtain ⟨a2_1, l2_1, c2_1, rfl, g2_2⟩ := gSlice_elim g2_1x
  obtain ⟨rfl, g⟩ := unnil_elim g2_2
  exact den_cut 2 (r := (cAt C [true, true])) (by kernel_rfl) (D2.ok R) (den_enter [(0, .int .i64 x0), (1, .agg #[.bool b1_0, .slice a1_1 l1_1 c1_1]), (2, .agg #[.bool b2_0, .slice a2_1 l2_1 c2_1])] ⟨e0, e1, e2, trivial⟩ (by kernel_rfl) g)
def t (x0 : Int) (b1_0 : Bool) (a1_1 : Option Addr) (l1_1 : Nat) (c1_1 : Nat) (b2_0 : Bool) (a2_1 : Option Addr) (l2_1 : Nat) (c2_1 : Nat) (h : Hp) (R : Rt) : Prop := D1.t R x0 b1_0 a1_1 l1_1 c1_1 b2_0 a2_1 l2_1 c2_1 h
theorem ok {x0 : Int} {b1_0 : Bool} {a1_1 : Option Addr} {l1_1 : Nat} {c1_1 : Nat} {b2_0 : Bool} {a2_1 : Option Addr} {l2_1 : Nat} {c2_1 : Nat} {h : Hp} {R : Rt} (g : t x0 b1_0 a1_1 l1_1 c1_1 b2_0 a2_1 l2_1 c2_1 h R) : HC id #[.int .i64 x0, .agg #[.bool b1_0, .slice a1_1 l1_1 c1_1], .agg #[.bool b2_0, .slice a2_1 l2_1 c2_1]] h R :=
  calls_of_den' envOk (c := C) (rs := [.cell 6 24, .tmp 7]) Tryd.func36 (by kernel_rfl) (by kernel_rfl) (by kernel_rfl) (args := [.int .i64 x0, .agg #[.bool b1_0, .slice a1_1 l1_1 c1_1], .agg #[.bool b2_0, .slice a2_1 l2_1 c2_1]]) (by kernel_rfl) (D1.ok R _ h (gInt_intro rfl (gAgg_intro rfl (uncons_intro (gBool_intro rfl (uncons_intro (gSlice_intro rfl (unnil_intro (gAgg_intro rfl (uncons_intro (gBool_intro rfl (uncons_intro (gSlice_intro rfl (unnil_intro (g)))))))))))))))
end num_way_div

namespace num_whole
noncomputable def C : Code := bodyOf Tryd.f37
def D1.t (R : Rt) (b0 : Bool) (a1 : Option Addr) (l1 : Nat) (c1 : Nat) (h : Hp) : Prop :=
  boxK h 24 T24.zs fun q1 h2 =>
  cond b0 (stK h2 (q1.add 0) (.bool (decide ((((l1 : Nat) : Int)) > 0))) fun h3 =>
  stK h3 (q1.add 1) (.slice a1 l1 c1) fun h4 =>
  ldK h4 (q1.add 0) fun v5 =>
  gBool v5 fun b_6 =>
  ldK h4 (q1.add 1) fun v7 =>
  gSlice v7 fun a_8 l_8 c_8 =>
  R (.agg #[.bool b_6, .slice a_8 l_8 c_8]) h4) (stK h2 (q1.add 0) (.bool false) fun h9 =>
  stK h9 (q1.add 1) (.slice a1 l1 c1) fun h10 =>
  ldK h10 (q1.add 0) fun v11 =>
  gBool v11 fun b_12 =>
  ldK h10 (q1.add 1) fun v13 =>
  gSlice v13 fun a_14 l_14 c_14 =>
  R (.agg #[.bool b_12, .slice a_14 l_14 c_14]) h10)
def D1.g (R : Rt) (fr : Fr) (h : Hp) : Prop := gBool (fr 0) fun b0 => gSlice (fr 1) fun a1 l1 c1 => D1.t R b0 a1 l1 c1 h
theorem D1.ok (R : Rt) (fr : Fr) (h : Hp) (g : D1.g R fr h) : den prog E C (retQ E [.cell 4 24] R) fr h := by
  obtain ⟨b0, e0, g⟩ := gBool_elim g
  obtain ⟨a1, l1, c1, e1, g⟩ := gSlice_elim g
  exact den_enter [(0, .bool b0), (1, .slice a1 l1 c1)] ⟨e0, e1, trivial⟩ (by kernel_rfl) g
def t (b0 : Bool) (a1 : Option Addr) (l1 : Nat) (c1 : Nat) (h : Hp) (R : Rt) : Prop := D1.t R b0 a1 l1 c1 h
theorem ok {b0 : Bool} {a1 : Option Addr} {l1 : Nat} {c1 : Nat} {h : Hp} {R : Rt} (g : t b0 a1 l1 c1 h R) : HC id #[.bool b0, .slice a1 l1 c1] h R :=
  calls_of_den' envOk (c := C) (rs := [.cell 4 24]) Tryd.func37 (by kernel_rfl) (by kernel_rfl) (by kernel_rfl) (args := [.bool b0, .slice a1 l1 c1]) (by kernel_rfl) (D1.ok R _ h (gBool_intro rfl (gSlice_intro rfl (g))))
end num_whole

namespace nat_Word
noncomputable def C : Code := bodyOf Tryd.f38
def D1.t (R : Rt) (x0 : Int) (h : Hp) : Prop :=
  cond (x0 == 0) (R (.slice none 0 0) h) (boxK h 43 [.int .u64 x0] fun q1 h2 => R (.slice (some q1) 1 1) h2)
def D1.g (R : Rt) (fr : Fr) (h : Hp) : Prop := gInt .u64 (fr 0) fun x0 => D1.t R x0 h
theorem D1.ok (R : Rt) (fr : Fr) (h : Hp) (g : D1.g R fr h) : den prog E C (retQ E [.tmp 2] R) fr h := by
  obtain ⟨x0, e0, g⟩ := gInt_elim g
  exact den_enter [(0, .int .u64 x0)] ⟨e0, trivial⟩ (by kernel_rfl) g
def t (x0 : Int) (h : Hp) (R : Rt) : Prop := D1.t R x0 h
theorem ok {x0 : Int} {h : Hp} {R : Rt} (g : t x0 h R) : HC id #[.int .u64 x0] h R :=
  calls_of_den' envOk (c := C) (rs := [.tmp 2]) Tryd.func38 (by kernel_rfl) (by kernel_rfl) (by kernel_rfl) (args := [.int .u64 x0]) (by kernel_rfl) (D1.ok R _ h (gInt_intro rfl (g)))
end nat_Word

namespace nat_Form
noncomputable def C : Code := bodyOf Tryd.f39
def D1.t (R : Rt) (a0 : Option Addr) (l0 : Nat) (c0 : Nat) (h : Hp) : Prop :=
  cond (decide ((((l0 : Nat) : Int)) ≤ 8192)) (cond ((((l0 : Nat) : Int)) == 0) (R (.bool true) h) (letK (IntKind.i64.wrap ((((l0 : Nat) : Int)) - 1)) fun n1 =>
  idxK a0 l0 n1 1 fun q2 =>
  ldK h q2 fun v3 =>
  gInt .u64 v3 fun x_4 =>
  R (.bool (x_4 != 0)) h)) (R (.bool false) h)
def D1.g (R : Rt) (fr : Fr) (h : Hp) : Prop := gSlice (fr 0) fun a0 l0 c0 => D1.t R a0 l0 c0 h
theorem D1.ok (R : Rt) (fr : Fr) (h : Hp) (g : D1.g R fr h) : den prog E C (retQ E [.tmp 2] R) fr h := by
  obtain ⟨a0, l0, c0, e0, g⟩ := gSlice_elim g
  exact den_enter [(0, .slice a0 l0 c0)] ⟨e0, trivial⟩ (by kernel_rfl) g
def t (a0 : Option Addr) (l0 : Nat) (c0 : Nat) (h : Hp) (R : Rt) : Prop := D1.t R a0 l0 c0 h
theorem ok {a0 : Option Addr} {l0 : Nat} {c0 : Nat} {h : Hp} {R : Rt} (g : t a0 l0 c0 h R) : HC id #[.slice a0 l0 c0] h R :=
  calls_of_den' envOk (c := C) (rs := [.tmp 2]) Tryd.func39 (by kernel_rfl) (by kernel_rfl) (by kernel_rfl) (args := [.slice a0 l0 c0]) (by kernel_rfl) (D1.ok R _ h (gSlice_intro rfl (g)))
end nat_Form

namespace nat_Cmp
noncomputable def C : Code := bodyOf Tryd.f40
def D2.t (R : Rt)  (h : Hp) : Prop :=
  R (.int .i64 0) h
def D2.g (R : Rt) (fr : Fr) (h : Hp) : Prop := D2.t R  h
theorem D2.ok (R : Rt) (fr : Fr) (h : Hp) (g : D2.g R fr h) : den prog E (cAt C [true, true, true, true]) (retQ E [.tmp 4] R) fr h := by
  exact den_enter [] trivial (by kernel_rfl) g
def L4.g (N : Option Addr → Nat → Nat → Option Addr → Nat → Nat → Int → Hp → Prop) (fr : Fr) (h : Hp) : Prop := gSlice (fr 5) fun a5 l5 c5 => gSlice (fr 6) fun a6 l6 c6 => gInt .i64 (fr 7) fun x7 => N a5 l5 c5 a6 l6 c6 x7 h
def D5.t (R : Rt) (N4 : Option Addr → Nat → Nat → Option Addr → Nat → Nat → Int → Hp → Prop) (a5 : Option Addr) (l5 : Nat) (c5 : Nat) (a6 : Option Addr) (l6 : Nat) (c6 : Nat) (x7 : Int) (h : Hp) : Prop :=
  cond (decide (x7 ≥ 0)) (idxK a5 l5 x7 1 fun q8 =>
  ldK h q8 fun v9 =>
  gInt .u64 v9 fun x_10 =>
  idxK a6 l6 x7 1 fun q11 =>
  ldK h q11 fun v12 =>
  gInt .u64 v12 fun x_13 =>
  cond (x_10 != x_13) (idxK a5 l5 x7 1 fun q14 =>
  ldK h q14 fun v15 =>
  gInt .u64 v15 fun x_16 =>
  idxK a6 l6 x7 1 fun q17 =>
  ldK h q17 fun v18 =>
  gInt .u64 v18 fun x_19 =>
  cond (decide (x_16 < x_19)) (R (.int .i64 (-1)) h) (R (.int .i64 1) h)) (letK (IntKind.i64.wrap (x7 - 1)) fun n20 =>
  N4 a5 l5 c5 a6 l6 c6 n20 h)) (D2.t R h)
def D5.g (R : Rt) (N4 : Option Addr → Nat → Nat → Option Addr → Nat → Nat → Int → Hp → Prop) (fr : Fr) (h : Hp) : Prop := gSlice (fr 5) fun a5 l5 c5 => gSlice (fr 6) fun a6 l6 c6 => gInt .i64 (fr 7) fun x7 => D5.t R N4 a5 l5 c5 a6 l6 c6 x7 h
theorem D5.ok (R : Rt) (N4 : Option Addr → Nat → Nat → Option Addr → Nat → Nat → Int → Hp → Prop) (fr : Fr) (h : Hp) (g : D5.g R N4 fr h) : den prog E (cAt C [true, true, true, false, true, false, false]) (Ex.then (L4.g N4) (Ex.inBlock 0 (Ex.then (D2.g R) (retQ E [.tmp 4] R)))) fr h := by
  obtain ⟨a5, l5, c5, e5, g⟩ := gSlice_elim g
  obtain ⟨a6, l6, c6, e6, g⟩ := gSlice_elim g
  obtain ⟨x7, e7, g⟩ := gInt_elim g
  exact den_enter [(5, .slice a5 l5 c5), (6, .slice a6 l6 c6), (7, .int .i64 x7)] ⟨e5, e6, e7, trivial⟩ (by kernel_rfl) g
def L4.t (R : Rt) : Nat → Option Addr → Nat → Nat → Option Addr → Nat → Nat → Int → Hp → Prop
  | 0 => fun _ _ _ _ _ _ _ _ => False
  | n + 1 => fun a5 l5 c5 a6 l6 c6 x7 h => D5.t R (L4.t R n) a5 l5 c5 a6 l6 c6 x7 h
theorem L4.ok (R : Rt) (fr : Fr) (h : Hp) (g : L4.g (fun a5 l5 c5 a6 l6 c6 x7 h => ∃ n, L4.t R n a5 l5 c5 a6 l6 c6 x7 h) fr h) : den prog E (cAt C [true, true, true, false, true, false]) (Ex.inBlock 0 (Ex.then (D2.g R) (retQ E [.tmp 4] R))) fr h := by
  obtain ⟨a5, l5, c5, e5, g⟩ := gSlice_elim g
  obtain ⟨a6, l6, c6, e6, g⟩ := gSlice_elim g
  obtain ⟨x7, e7, g⟩ := gInt_elim g
  obtain ⟨n, g⟩ := g
  refine loop_ok (fun n => L4.g (L4.t R n)) (b := (cAt C [true, true, true, false, true, false, false])) (by kernel_rfl) (fun fr h g => ?_) (fun n => D5.ok R (L4.t R n)) n fr h (gSlice_intro e5 (gSlice_intro e6 (gInt_intro e7 (g))))
  obtain ⟨a5, l5, c5, e5, g⟩ := gSlice_elim g
  obtain ⟨a6, l6, c6, e6, g⟩ := gSlice_elim g
  obtain ⟨x7, e7, g⟩ := gInt_elim g
  exact g
theorem B6.ok (R : Rt) (fr : Fr) (h : Hp) (g : L4.g (fun a5 l5 c5 a6 l6 c6 x7 h => ∃ n, L4.t R n a5 l5 c5 a6 l6 c6 x7 h) fr h) : den prog E (cAt C [true, true, true, false, true]) (Ex.then (D2.g R) (retQ E [.tmp 4] R)) fr h :=
  den_block (by kernel_rfl) (L4.ok R fr h g)
def D3.t (R : Rt) (a5 : Option Addr) (l5 : Nat) (c5 : Nat) (a6 : Option Addr) (l6 : Nat) (c6 : Nat) (h : Hp) : Prop :=
  letK (IntKind.i64.wrap ((((l5 : Nat) : Int)) - 1)) fun n7 => (∃ n, L4.t R n a5 l5 c5 a6 l6 c6 n7 h)
def D3.g (R : Rt) (fr : Fr) (h : Hp) : Prop := gSlice (fr 5) fun a5 l5 c5 => gSlice (fr 6) fun a6 l6 c6 => D3.t R a5 l5 c5 a6 l6 c6 h
theorem D3.ok (R : Rt) (fr : Fr) (h : Hp) (g : D3.g R fr h) : den prog E (cAt C [true, true, true, false]) (Ex.then (D2.g R) (retQ E [.tmp 4] R)) fr h := by
  obtain ⟨a5, l5, c5, e5, g⟩ := gSlice_elim g
  obtain ⟨a6, l6, c6, e6, g⟩ := gSlice_elim g
  exact den_cut 1 (r := (cAt C [true, true, true, false, true])) (by kernel_rfl) (B6.ok R) (den_enter [(5, .slice a5 l5 c5), (6, .slice a6 l6 c6)] ⟨e5, e6, trivial⟩ (by kernel_rfl) g)
theorem W7.ok (R : Rt) (fr : Fr) (h : Hp) (g : D3.g R fr h) : den prog E (cAt C [true, true, true]) (retQ E [.tmp 4] R) fr h :=
  den_then (by kernel_rfl) (D2.ok R) (D3.ok R fr h g)
def D1.t (R : Rt) (a0 : Option Addr) (l0 : Nat) (c0 : Nat) (a1 : Option Addr) (l1 : Nat) (c1 : Nat) (h : Hp) : Prop :=
  HC nat_trim.id #[.slice a0 l0 c0] h fun v1 h2 =>
  gSlice v1 fun a_3 l_3 c_3 =>
  HC nat_trim.id #[.slice a1 l1 c1] h2 fun v4 h5 =>
  gSlice v4 fun a_6 l_6 c_6 =>
  cond ((((l_3 : Nat) : Int)) != (((l_6 : Nat) : Int))) (cond (decide ((((l_3 : Nat) : Int)) < (((l_6 : Nat) : Int)))) (R (.int .i64 (-1)) h5) (R (.int .i64 1) h5)) (D3.t R a_3 l_3 c_3 a_6 l_6 c_6 h5)
def D1.g (R : Rt) (fr : Fr) (h : Hp) : Prop := gSlice (fr 0) fun a0 l0 c0 => gSlice (fr 1) fun a1 l1 c1 => D1.t R a0 l0 c0 a1 l1 c1 h
theorem D1.ok (R : Rt) (fr : Fr) (h : Hp) (g : D1.g R fr h) : den prog E C (retQ E [.tmp 4] R) fr h := by
  obtain ⟨a0, l0, c0, e0, g⟩ := gSlice_elim g
  obtain ⟨a1, l1, c1, e1, g⟩ := gSlice_elim g
  exact den_cut 3 (r := (cAt C [true, true, true])) (by kernel_rfl) (W7.ok R) (den_enter [(0, .slice a0 l0 c0), (1, .slice a1 l1 c1)] ⟨e0, e1, trivial⟩ (by kernel_rfl) g)
def t (a0 : Option Addr) (l0 : Nat) (c0 : Nat) (a1 : Option Addr) (l1 : Nat) (c1 : Nat) (h : Hp) (R : Rt) : Prop := D1.t R a0 l0 c0 a1 l1 c1 h
theorem ok {a0 : Option Addr} {l0 : Nat} {c0 : Nat} {a1 : Option Addr} {l1 : Nat} {c1 : Nat} {h : Hp} {R : Rt} (g : t a0 l0 c0 a1 l1 c1 h R) : HC id #[.slice a0 l0 c0, .slice a1 l1 c1] h R :=
  calls_of_den' envOk (c := C) (rs := [.tmp 4]) Tryd.func40 (by kernel_rfl) (by kernel_rfl) (by kernel_rfl) (args := [.slice a0 l0 c0, .slice a1 l1 c1]) (by kernel_rfl) (D1.ok R _ h (gSlice_intro rfl (gSlice_intro rfl (g))))
end nat_Cmp

namespace nat_Add
noncomputable def C : Code := bodyOf Tryd.f41
def D4.t (R : Rt) (a0 : Option Addr) (l0 : Nat) (c0 : Nat) (a6 : Option Addr) (l6 : Nat) (c6 : Nat) (x7 : Int) (h : Hp) : Prop :=
  idxK a6 l6 (((l0 : Nat) : Int)) 1 fun q10 =>
  stK h q10 (.int .u64 x7) fun h11 =>
  HC nat_told.id #[.slice a6 l6 c6] h11 fun v12 h13 =>
  gTup v12 fun y14 =>
  uncons y14 fun v15 y15 =>
  gSlice v15 fun a_16 l_16 c_16 =>
  uncons y15 fun v17 y17 =>
  gInt .i64 v17 fun x_18 =>
  unnil y17 <| R (.tuple #[.slice a_16 l_16 c_16, .int .i64 x_18]) h13
def D4.g (R : Rt) (fr : Fr) (h : Hp) : Prop := gSlice (fr 0) fun a0 l0 c0 => gSlice (fr 6) fun a6 l6 c6 => gInt .u64 (fr 7) fun x7 => D4.t R a0 l0 c0 a6 l6 c6 x7 h
theorem D4.ok (R : Rt) (fr : Fr) (h : Hp) (g : D4.g R fr h) : den prog E (cAt C [true, true, true, true, true, true]) (retQ E [.tmp 4, .tmp 5] R) fr h := by
  obtain ⟨a0, l0, c0, e0, g⟩ := gSlice_elim g
  obtain ⟨a6, l6, c6, e6, g⟩ := gSlice_elim g
  obtain ⟨x7, e7, g⟩ := gInt_elim g
  exact den_enter [(0, .slice a0 l0 c0), (6, .slice a6 l6 c6), (7, .int .u64 x7)] ⟨e0, e6, e7, trivial⟩ (by kernel_rfl) g
def L6.g (N : Option Addr → Nat → Nat → Option Addr → Nat → Nat → Option Addr → Nat → Nat → Int → Int → Int → Hp → Prop) (fr : Fr) (h : Hp) : Prop := gSlice (fr 0) fun a0 l0 c0 => gSlice (fr 1) fun a1 l1 c1 => gSlice (fr 6) fun a6 l6 c6 => gInt .u64 (fr 7) fun x7 => gInt .i64 (fr 30) fun x30 => gInt .i64 (fr 31) fun x31 => N a0 l0 c0 a1 l1 c1 a6 l6 c6 x7 x30 x31 h
def D7.t (R : Rt) (N6 : Option Addr → Nat → Nat → Option Addr → Nat → Nat → Option Addr → Nat → Nat → Int → Int → Int → Hp → Prop) (a0 : Option Addr) (l0 : Nat) (c0 : Nat) (a1 : Option Addr) (l1 : Nat) (c1 : Nat) (a6 : Option Addr) (l6 : Nat) (c6 : Nat) (x7 : Int) (x30 : Int) (x31 : Int) (h : Hp) : Prop :=
  cond (decide (x31 < x30)) (cond (decide (x31 < (((l1 : Nat) : Int)))) (idxK a1 l1 x31 1 fun q19 =>
  ldK h q19 fun v20 =>
  gInt .u64 v20 fun x_21 =>
  idxK a0 l0 x31 1 fun q22 =>
  ldK h q22 fun v23 =>
  gInt .u64 v23 fun x_24 =>
  addK x_24 x_21 x7 fun n25 m25 =>
  idxK a6 l6 x31 1 fun q26 =>
  stK h q26 (.int .u64 n25) fun h27 =>
  letK (IntKind.i64.wrap (x31 + 1)) fun n28 =>
  N6 a0 l0 c0 a1 l1 c1 a6 l6 c6 m25 x30 n28 h27) (idxK a0 l0 x31 1 fun q29 =>
  ldK h q29 fun v30 =>
  gInt .u64 v30 fun x_31 =>
  addK x_31 0 x7 fun n32 m32 =>
  idxK a6 l6 x31 1 fun q33 =>
  stK h q33 (.int .u64 n32) fun h34 =>
  letK (IntKind.i64.wrap (x31 + 1)) fun n35 =>
  N6 a0 l0 c0 a1 l1 c1 a6 l6 c6 m32 x30 n35 h34)) (D4.t R a0 l0 c0 a6 l6 c6 x7 h)
def D7.g (R : Rt) (N6 : Option Addr → Nat → Nat → Option Addr → Nat → Nat → Option Addr → Nat → Nat → Int → Int → Int → Hp → Prop) (fr : Fr) (h : Hp) : Prop := gSlice (fr 0) fun a0 l0 c0 => gSlice (fr 1) fun a1 l1 c1 => gSlice (fr 6) fun a6 l6 c6 => gInt .u64 (fr 7) fun x7 => gInt .i64 (fr 30) fun x30 => gInt .i64 (fr 31) fun x31 => D7.t R N6 a0 l0 c0 a1 l1 c1 a6 l6 c6 x7 x30 x31 h
theorem D7.ok (R : Rt) (N6 : Option Addr → Nat → Nat → Option Addr → Nat → Nat → Option Addr → Nat → Nat → Int → Int → Int → Hp → Prop) (fr : Fr) (h : Hp) (g : D7.g R N6 fr h) : den prog E (cAt C [true, true, true, true, true, false, true, false, false]) (Ex.then (L6.g N6) (Ex.inBlock 0 (Ex.then (D4.g R) (retQ E [.tmp 4, .tmp 5] R)))) fr h := by
  obtain ⟨a0, l0, c0, e0, g⟩ := gSlice_elim g
  obtain ⟨a1, l1, c1, e1, g⟩ := gSlice_elim g
  obtain ⟨a6, l6, c6, e6, g⟩ := gSlice_elim g
  obtain ⟨x7, e7, g⟩ := gInt_elim g
  obtain ⟨x30, e30, g⟩ := gInt_elim g
  obtain ⟨x31, e31, g⟩ := gInt_elim g
  exact den_enter [(0, .slice a0 l0 c0), (1, .slice a1 l1 c1), (6, .slice a6 l6 c6), (7, .int .u64 x7), (30, .int .i64 x30), (31, .int .i64 x31)] ⟨e0, e1, e6, e7, e30, e31, trivial⟩ (by kernel_rfl) g
def L6.t (R : Rt) : Nat → Option Addr → Nat → Nat → Option Addr → Nat → Nat → Option Addr → Nat → Nat → Int → Int → Int → Hp → Prop
  | 0 => fun _ _ _ _ _ _ _ _ _ _ _ _ _ => False
  | n + 1 => fun a0 l0 c0 a1 l1 c1 a6 l6 c6 x7 x30 x31 h => D7.t R (L6.t R n) a0 l0 c0 a1 l1 c1 a6 l6 c6 x7 x30 x31 h
theorem L6.ok (R : Rt) (fr : Fr) (h : Hp) (g : L6.g (fun a0 l0 c0 a1 l1 c1 a6 l6 c6 x7 x30 x31 h => ∃ n, L6.t R n a0 l0 c0 a1 l1 c1 a6 l6 c6 x7 x30 x31 h) fr h) : den prog E (cAt C [true, true, true, true, true, false, true, false]) (Ex.inBlock 0 (Ex.then (D4.g R) (retQ E [.tmp 4, .tmp 5] R))) fr h := by
  obtain ⟨a0, l0, c0, e0, g⟩ := gSlice_elim g
  obtain ⟨a1, l1, c1, e1, g⟩ := gSlice_elim g
  obtain ⟨a6, l6, c6, e6, g⟩ := gSlice_elim g
  obtain ⟨x7, e7, g⟩ := gInt_elim g
  obtain ⟨x30, e30, g⟩ := gInt_elim g
  obtain ⟨x31, e31, g⟩ := gInt_elim g
  obtain ⟨n, g⟩ := g
  refine loop_ok (fun n => L6.g (L6.t R n)) (b := (cAt C [true, true, true, true, true, false, true, false, false])) (by kernel_rfl) (fun fr h g => ?_) (fun n => D7.ok R (L6.t R n)) n fr h (gSlice_intro e0 (gSlice_intro e1 (gSlice_intro e6 (gInt_intro e7 (gInt_intro e30 (gInt_intro e31 (g)))))))
  obtain ⟨a0, l0, c0, e0, g⟩ := gSlice_elim g
  obtain ⟨a1, l1, c1, e1, g⟩ := gSlice_elim g
  obtain ⟨a6, l6, c6, e6, g⟩ := gSlice_elim g
  obtain ⟨x7, e7, g⟩ := gInt_elim g
  obtain ⟨x30, e30, g⟩ := gInt_elim g
  obtain ⟨x31, e31, g⟩ := gInt_elim g
  exact g
theorem B8.ok (R : Rt) (fr : Fr) (h : Hp) (g : L6.g (fun a0 l0 c0 a1 l1 c1 a6 l6 c6 x7 x30 x31 h => ∃ n, L6.t R n a0 l0 c0 a1 l1 c1 a6 l6 c6 x7 x30 x31 h) fr h) : den prog E (cAt C [true, true, true, true, true, false, true]) (Ex.then (D4.g R) (retQ E [.tmp 4, .tmp 5] R)) fr h :=
  den_block (by kernel_rfl) (L6.ok R fr h g)
def D5.t (R : Rt) (a0 : Option Addr) (l0 : Nat) (c0 : Nat) (a1 : Option Addr) (l1 : Nat) (c1 : Nat) (a6 : Option Addr) (l6 : Nat) (c6 : Nat) (x7 : Int) (h : Hp) : Prop :=
  (∃ n, L6.t R n a0 l0 c0 a1 l1 c1 a6 l6 c6 x7 (((l0 : Nat) : Int)) 0 h)
def D5.g (R : Rt) (fr : Fr) (h : Hp) : Prop := gSlice (fr 0) fun a0 l0 c0 => gSlice (fr 1) fun a1 l1 c1 => gSlice (fr 6) fun a6 l6 c6 => gInt .u64 (fr 7) fun x7 => D5.t R a0 l0 c0 a1 l1 c1 a6 l6 c6 x7 h
theorem D5.ok (R : Rt) (fr : Fr) (h : Hp) (g : D5.g R fr h) : den prog E (cAt C [true, true, true, true, true, false]) (Ex.then (D4.g R) (retQ E [.tmp 4, .tmp 5] R)) fr h := by
  obtain ⟨a0, l0, c0, e0, g⟩ := gSlice_elim g
  obtain ⟨a1, l1, c1, e1, g⟩ := gSlice_elim g
  obtain ⟨a6, l6, c6, e6, g⟩ := gSlice_elim g
  obtain ⟨x7, e7, g⟩ := gInt_elim g
  exact den_cut 1 (r := (cAt C [true, true, true, true, true, false, true])) (by kernel_rfl) (B8.ok R) (den_enter [(0, .slice a0 l0 c0), (1, .slice a1 l1 c1), (6, .slice a6 l6 c6), (7, .int .u64 x7)] ⟨e0, e1, e6, e7, trivial⟩ (by kernel_rfl) g)
theorem W9.ok (R : Rt) (fr : Fr) (h : Hp) (g : D5.g R fr h) : den prog E (cAt C [true, true, true, true, true]) (retQ E [.tmp 4, .tmp 5] R) fr h :=
  den_then (by kernel_rfl) (D4.ok R) (D5.ok R fr h g)
def D3.t (R : Rt) (a0 : Option Addr) (l0 : Nat) (c0 : Nat) (a1 : Option Addr) (l1 : Nat) (c1 : Nat) (h : Hp) : Prop :=
  letK (IntKind.i64.wrap ((((l0 : Nat) : Int)) + 1)) fun n7 =>
  mkK h 43 T43 n7 n7 fun q8 h9 =>
  D5.t R a0 l0 c0 a1 l1 c1 (some q8) n7.toNat n7.toNat 0 h9
def D3.g (R : Rt) (fr : Fr) (h : Hp) : Prop := gSlice (fr 0) fun a0 l0 c0 => gSlice (fr 1) fun a1 l1 c1 => D3.t R a0 l0 c0 a1 l1 c1 h
theorem D3.ok (R : Rt) (fr : Fr) (h : Hp) (g : D3.g R fr h) : den prog E (cAt C [true, true, true]) (retQ E [.tmp 4, .tmp 5] R) fr h := by
  obtain ⟨a0, l0, c0, e0, g⟩ := gSlice_elim g
  obtain ⟨a1, l1, c1, e1, g⟩ := gSlice_elim g
  exact den_cut 2 (r := (cAt C [true, true, true, true, true])) (by kernel_rfl) (W9.ok R) (den_enter [(0, .slice a0 l0 c0), (1, .slice a1 l1 c1)] ⟨e0, e1, trivial⟩ (by kernel_rfl) g)
def D2.t (R : Rt) (a0 : Option Addr) (l0 : Nat) (c0 : Nat) (a1 : Option Addr) (l1 : Nat) (c1 : Nat) (h : Hp) : Prop :=
  cond (decide ((((l0 : Nat) : Int)) < (((l1 : Nat) : Int)))) (D3.t R a1 l1 c1 a0 l0 c0 h) (D3.t R a0 l0 c0 a1 l1 c1 h)
def D2.g (R : Rt) (fr : Fr) (h : Hp) : Prop := gSlice (fr 0) fun a0 l0 c0 => gSlice (fr 1) fun a1 l1 c1 => D2.t R a0 l0 c0 a1 l1 c1 h
theorem D2.ok (R : Rt) (fr : Fr) (h : Hp) (g : D2.g R fr h) : den prog E (cAt C [true, true]) (retQ E [.tmp 4, .tmp 5] R) fr h := by
  obtain ⟨a0, l0, c0, e0, g⟩ := gSlice_elim g
  obtain ⟨a1, l1, c1, e1, g⟩ := gSlice_elim g
  exact den_cut 1 (r := (cAt C [true, true, true])) (by kernel_rfl) (D3.ok R) (den_enter [(0, .slice a0 l0 c0), (1, .slice a1 l1 c1)] ⟨e0, e1, trivial⟩ (by kernel_rfl) g)
def D1.t (R : Rt) (a0 : Option Addr) (l0 : Nat) (c0 : Nat) (a1 : Option Addr) (l1 : Nat) (c1 : Nat) (h : Hp) : Prop :=
  HC nat_Form.id #[.slice a0 l0 c0] h fun v1 h2 =>
  gBool v1 fun b_3 =>
  cond (!b_3) (R (.tuple #[.slice none 0 0, .int .i64 2]) h2) (HC nat_Form.id #[.slice a1 l1 c1] h2 fun v4 h5 =>
  gBool v4 fun b_6 =>
  cond (!b_6) (R (.tuple #[.slice none 0 0, .int .i64 2]) h5) (D2.t R a0 l0 c0 a1 l1 c1 h5))
def D1.g (R : Rt) (fr : Fr) (h : Hp) : Prop := gSlice (fr 0) fun a0 l0 c0 => gSlice (fr 1) fun a1 l1 c1 => D1.t R a0 l0 c0 a1 l1 c1 h
theorem D1.ok (R : Rt) (fr : Fr) (h : Hp) (g : D1.g R fr h) : den prog E C (retQ E [.tmp 4, .tmp 5] R) fr h := by
  obtain ⟨a0, l0, c0, e0, g⟩ := gSlice_elim g
  obtain ⟨a1, l1, c1, e1, g⟩ := gSlice_elim g
  exact den_cut 2 (r := (cAt C [true, true])) (by kernel_rfl) (D2.ok R) (den_enter [(0, .slice a0 l0 c0), (1, .slice a1 l1 c1)] ⟨e0, e1, trivial⟩ (by kernel_rfl) g)
def t (a0 : Option Addr) (l0 : Nat) (c0 : Nat) (a1 : Option Addr) (l1 : Nat) (c1 : Nat) (h : Hp) (R : Rt) : Prop := D1.t R a0 l0 c0 a1 l1 c1 h
theorem ok {a0 : Option Addr} {l0 : Nat} {c0 : Nat} {a1 : Option Addr} {l1 : Nat} {c1 : Nat} {h : Hp} {R : Rt} (g : t a0 l0 c0 a1 l1 c1 h R) : HC id #[.slice a0 l0 c0, .slice a1 l1 c1] h R :=
  calls_of_den' envOk (c := C) (rs := [.tmp 4, .tmp 5]) Tryd.func41 (by kernel_rfl) (by kernel_rfl) (by kernel_rfl) (args := [.slice a0 l0 c0, .slice a1 l1 c1]) (by kernel_rfl) (D1.ok R _ h (gSlice_intro rfl (gSlice_intro rfl (g))))
end nat_Add

namespace nat_Sub
noncomputable def C : Code := bodyOf Tryd.f42
def D3.t (R : Rt) (a6 : Option Addr) (l6 : Nat) (c6 : Nat) (h : Hp) : Prop :=
  HC nat_told.id #[.slice a6 l6 c6] h fun v12 h13 =>
  gTup v12 fun y14 =>
  uncons y14 fun v15 y15 =>
  gSlice v15 fun a_16 l_16 c_16 =>
  uncons y15 fun v17 y17 =>
  gInt .i64 v17 fun x_18 =>
  unnil y17 <| R (.tuple #[.slice a_16 l_16 c_16, .int .i64 x_18]) h13
def D3.g (R : Rt) (fr : Fr) (h : Hp) : Prop := gSlice (fr 6) fun a6 l6 c6 => D3.t R a6 l6 c6 h
theorem D3.ok (R : Rt) (fr : Fr) (h : Hp) (g : D3.g R fr h) : den prog E (cAt C [true, true, true, true, true, true]) (retQ E [.tmp 4, .tmp 5] R) fr h := by
  obtain ⟨a6, l6, c6, e6, g⟩ := gSlice_elim g
  exact den_enter [(6, .slice a6 l6 c6)] ⟨e6, trivial⟩ (by kernel_rfl) g
def L5.g (N : Option Addr → Nat → Nat → Option Addr → Nat → Nat → Option Addr → Nat → Nat → Int → Int → Int → Hp → Prop) (fr : Fr) (h : Hp) : Prop := gSlice (fr 0) fun a0 l0 c0 => gSlice (fr 1) fun a1 l1 c1 => gSlice (fr 6) fun a6 l6 c6 => gInt .u64 (fr 7) fun x7 => gInt .i64 (fr 26) fun x26 => gInt .i64 (fr 27) fun x27 => N a0 l0 c0 a1 l1 c1 a6 l6 c6 x7 x26 x27 h
def D6.t (R : Rt) (N5 : Option Addr → Nat → Nat → Option Addr → Nat → Nat → Option Addr → Nat → Nat → Int → Int → Int → Hp → Prop) (a0 : Option Addr) (l0 : Nat) (c0 : Nat) (a1 : Option Addr) (l1 : Nat) (c1 : Nat) (a6 : Option Addr) (l6 : Nat) (c6 : Nat) (x7 : Int) (x26 : Int) (x27 : Int) (h : Hp) : Prop :=
  cond (decide (x27 < x26)) (cond (decide (x27 < (((l1 : Nat) : Int)))) (idxK a1 l1 x27 1 fun q19 =>
  ldK h q19 fun v20 =>
  gInt .u64 v20 fun x_21 =>
  idxK a0 l0 x27 1 fun q22 =>
  ldK h q22 fun v23 =>
  gInt .u64 v23 fun x_24 =>
  subK x_24 x_21 x7 fun n25 m25 =>
  idxK a6 l6 x27 1 fun q26 =>
  stK h q26 (.int .u64 n25) fun h27 =>
  letK (IntKind.i64.wrap (x27 + 1)) fun n28 =>
  N5 a0 l0 c0 a1 l1 c1 a6 l6 c6 m25 x26 n28 h27) (idxK a0 l0 x27 1 fun q29 =>
  ldK h q29 fun v30 =>
  gInt .u64 v30 fun x_31 =>
  subK x_31 0 x7 fun n32 m32 =>
  idxK a6 l6 x27 1 fun q33 =>
  stK h q33 (.int .u64 n32) fun h34 =>
  letK (IntKind.i64.wrap (x27 + 1)) fun n35 =>
  N5 a0 l0 c0 a1 l1 c1 a6 l6 c6 m32 x26 n35 h34)) (D3.t R a6 l6 c6 h)
def D6.g (R : Rt) (N5 : Option Addr → Nat → Nat → Option Addr → Nat → Nat → Option Addr → Nat → Nat → Int → Int → Int → Hp → Prop) (fr : Fr) (h : Hp) : Prop := gSlice (fr 0) fun a0 l0 c0 => gSlice (fr 1) fun a1 l1 c1 => gSlice (fr 6) fun a6 l6 c6 => gInt .u64 (fr 7) fun x7 => gInt .i64 (fr 26) fun x26 => gInt .i64 (fr 27) fun x27 => D6.t R N5 a0 l0 c0 a1 l1 c1 a6 l6 c6 x7 x26 x27 h
theorem D6.ok (R : Rt) (N5 : Option Addr → Nat → Nat → Option Addr → Nat → Nat → Option Addr → Nat → Nat → Int → Int → Int → Hp → Prop) (fr : Fr) (h : Hp) (g : D6.g R N5 fr h) : den prog E (cAt C [true, true, true, true, true, false, true, false, false]) (Ex.then (L5.g N5) (Ex.inBlock 0 (Ex.then (D3.g R) (retQ E [.tmp 4, .tmp 5] R)))) fr h := by
  obtain ⟨a0, l0, c0, e0, g⟩ := gSlice_elim g
  obtain ⟨a1, l1, c1, e1, g⟩ := gSlice_elim g
  obtain ⟨a6, l6, c6, e6, g⟩ := gSlice_elim g
  obtain ⟨x7, e7, g⟩ := gInt_elim g
  obtain ⟨x26, e26, g⟩ := gInt_elim g
  obtain ⟨x27, e27, g⟩ := gInt_elim g
  exact den_enter [(0, .slice a0 l0 c0), (1, .slice a1 l1 c1), (6, .slice a6 l6 c6), (7, .int .u64 x7), (26, .int .i64 x26), (27, .int .i64 x27)] ⟨e0, e1, e6, e7, e26, e27, trivial⟩ (by kernel_rfl) g
def L5.t (R : Rt) : Nat → Option Addr → Nat → Nat → Option Addr → Nat → Nat → Option Addr → Nat → Nat → Int → Int → Int → Hp → Prop
  | 0 => fun _ _ _ _ _ _ _ _ _ _ _ _ _ => False
  | n + 1 => fun a0 l0 c0 a1 l1 c1 a6 l6 c6 x7 x26 x27 h => D6.t R (L5.t R n) a0 l0 c0 a1 l1 c1 a6 l6 c6 x7 x26 x27 h
theorem L5.ok (R : Rt) (fr : Fr) (h : Hp) (g : L5.g (fun a0 l0 c0 a1 l1 c1 a6 l6 c6 x7 x26 x27 h => ∃ n, L5.t R n a0 l0 c0 a1 l1 c1 a6 l6 c6 x7 x26 x27 h) fr h) : den prog E (cAt C [true, true, true, true, true, false, true, false]) (Ex.inBlock 0 (Ex.then (D3.g R) (retQ E [.tmp 4, .tmp 5] R))) fr h := by
  obtain ⟨a0, l0, c0, e0, g⟩ := gSlice_elim g
  obtain ⟨a1, l1, c1, e1, g⟩ := gSlice_elim g
  obtain ⟨a6, l6, c6, e6, g⟩ := gSlice_elim g
  obtain ⟨x7, e7, g⟩ := gInt_elim g
  obtain ⟨x26, e26, g⟩ := gInt_elim g
  obtain ⟨x27, e27, g⟩ := gInt_elim g
  obtain ⟨n, g⟩ := g
  refine loop_ok (fun n => L5.g (L5.t R n)) (b := (cAt C [true, true, true, true, true, false, true, false, false])) (by kernel_rfl) (fun fr h g => ?_) (fun n => D6.ok R (L5.t R n)) n fr h (gSlice_intro e0 (gSlice_intro e1 (gSlice_intro e6 (gInt_intro e7 (gInt_intro e26 (gInt_intro e27 (g)))))))
  obtain ⟨a0, l0, c0, e0, g⟩ := gSlice_elim g
  obtain ⟨a1, l1, c1, e1, g⟩ := gSlice_elim g
  obtain ⟨a6, l6, c6, e6, g⟩ := gSlice_elim g
  obtain ⟨x7, e7, g⟩ := gInt_elim g
  obtain ⟨x26, e26, g⟩ := gInt_elim g
  obtain ⟨x27, e27, g⟩ := gInt_elim g
  exact g
theorem B7.ok (R : Rt) (fr : Fr) (h : Hp) (g : L5.g (fun a0 l0 c0 a1 l1 c1 a6 l6 c6 x7 x26 x27 h => ∃ n, L5.t R n a0 l0 c0 a1 l1 c1 a6 l6 c6 x7 x26 x27 h) fr h) : den prog E (cAt C [true, true, true, true, true, false, true]) (Ex.then (D3.g R) (retQ E [.tmp 4, .tmp 5] R)) fr h :=
  den_block (by kernel_rfl) (L5.ok R fr h g)
def D4.t (R : Rt) (a0 : Option Addr) (l0 : Nat) (c0 : Nat) (a1 : Option Addr) (l1 : Nat) (c1 : Nat) (a6 : Option Addr) (l6 : Nat) (c6 : Nat) (x7 : Int) (h : Hp) : Prop :=
  (∃ n, L5.t R n a0 l0 c0 a1 l1 c1 a6 l6 c6 x7 (((l0 : Nat) : Int)) 0 h)
def D4.g (R : Rt) (fr : Fr) (h : Hp) : Prop := gSlice (fr 0) fun a0 l0 c0 => gSlice (fr 1) fun a1 l1 c1 => gSlice (fr 6) fun a6 l6 c6 => gInt .u64 (fr 7) fun x7 => D4.t R a0 l0 c0 a1 l1 c1 a6 l6 c6 x7 h
theorem D4.ok (R : Rt) (fr : Fr) (h : Hp) (g : D4.g R fr h) : den prog E (cAt C [true, true, true, true, true, false]) (Ex.then (D3.g R) (retQ E [.tmp 4, .tmp 5] R)) fr h := by
  obtain ⟨a0, l0, c0, e0, g⟩ := gSlice_elim g
  obtain ⟨a1, l1, c1, e1, g⟩ := gSlice_elim g
  obtain ⟨a6, l6, c6, e6, g⟩ := gSlice_elim g
  obtain ⟨x7, e7, g⟩ := gInt_elim g
  exact den_cut 1 (r := (cAt C [true, true, true, true, true, false, true])) (by kernel_rfl) (B7.ok R) (den_enter [(0, .slice a0 l0 c0), (1, .slice a1 l1 c1), (6, .slice a6 l6 c6), (7, .int .u64 x7)] ⟨e0, e1, e6, e7, trivial⟩ (by kernel_rfl) g)
theorem W8.ok (R : Rt) (fr : Fr) (h : Hp) (g : D4.g R fr h) : den prog E (cAt C [true, true, true, true, true]) (retQ E [.tmp 4, .tmp 5] R) fr h :=
  den_then (by kernel_rfl) (D3.ok R) (D4.ok R fr h g)
def D2.t (R : Rt) (a0 : Option Addr) (l0 : Nat) (c0 : Nat) (a1 : Option Addr) (l1 : Nat) (c1 : Nat) (h : Hp) : Prop :=
  HC nat_Cmp.id #[.slice a0 l0 c0, .slice a1 l1 c1] h fun v7 h8 =>
  gInt .i64 v7 fun x_9 =>
  cond (decide (x_9 < 0)) (R (.tuple #[.slice none 0 0, .int .i64 3]) h8) (mkK h8 43 T43 (((l0 : Nat) : Int)) (((l0 : Nat) : Int)) fun q10 h11 =>
  D4.t R a0 l0 c0 a1 l1 c1 (some q10) ((((l0 : Nat) : Int)).toNat) ((((l0 : Nat) : Int)).toNat) 0 h11)
def D2.g (R : Rt) (fr : Fr) (h : Hp) : Prop := gSlice (fr 0) fun a0 l0 c0 => gSlice (fr 1) fun a1 l1 c1 => D2.t R a0 l0 c0 a1 l1 c1 h
theorem D2.ok (R : Rt) (fr : Fr) (h : Hp) (g : D2.g R fr h) : den prog E (cAt C [true, true]) (retQ E [.tmp 4, .tmp 5] R) fr h := by
  obtain ⟨a0, l0, c0, e0, g⟩ := gSlice_elim g
  obtain ⟨a1, l1, c1, e1, g⟩ := gSlice_elim g
  exact den_cut 3 (r := (cAt C [true, true, true, true, true])) (by kernel_rfl) (W8.ok R) (den_enter [(0, .slice a0 l0 c0), (1, .slice a1 l1 c1)] ⟨e0, e1, trivial⟩ (by kernel_rfl) g)
def D1.t (R : Rt) (a0 : Option Addr) (l0 : Nat) (c0 : Nat) (a1 : Option Addr) (l1 : Nat) (c1 : Nat) (h : Hp) : Prop :=
  HC nat_Form.id #[.slice a0 l0 c0] h fun v1 h2 =>
  gBool v1 fun b_3 =>
  cond (!b_3) (R (.tuple #[.slice none 0 0, .int .i64 2]) h2) (HC nat_Form.id #[.slice a1 l1 c1] h2 fun v4 h5 =>
  gBool v4 fun b_6 =>
  cond (!b_6) (R (.tuple #[.slice none 0 0, .int .i64 2]) h5) (D2.t R a0 l0 c0 a1 l1 c1 h5))
def D1.g (R : Rt) (fr : Fr) (h : Hp) : Prop := gSlice (fr 0) fun a0 l0 c0 => gSlice (fr 1) fun a1 l1 c1 => D1.t R a0 l0 c0 a1 l1 c1 h
theorem D1.ok (R : Rt) (fr : Fr) (h : Hp) (g : D1.g R fr h) : den prog E C (retQ E [.tmp 4, .tmp 5] R) fr h := by
  obtain ⟨a0, l0, c0, e0, g⟩ := gSlice_elim g
  obtain ⟨a1, l1, c1, e1, g⟩ := gSlice_elim g
  exact den_cut 2 (r := (cAt C [true, true])) (by kernel_rfl) (D2.ok R) (den_enter [(0, .slice a0 l0 c0), (1, .slice a1 l1 c1)] ⟨e0, e1, trivial⟩ (by kernel_rfl) g)
def t (a0 : Option Addr) (l0 : Nat) (c0 : Nat) (a1 : Option Addr) (l1 : Nat) (c1 : Nat) (h : Hp) (R : Rt) : Prop := D1.t R a0 l0 c0 a1 l1 c1 h
theorem ok {a0 : Option Addr} {l0 : Nat} {c0 : Nat} {a1 : Option Addr} {l1 : Nat} {c1 : Nat} {h : Hp} {R : Rt} (g : t a0 l0 c0 a1 l1 c1 h R) : HC id #[.slice a0 l0 c0, .slice a1 l1 c1] h R :=
  calls_of_den' envOk (c := C) (rs := [.tmp 4, .tmp 5]) Tryd.func42 (by kernel_rfl) (by kernel_rfl) (by kernel_rfl) (args := [.slice a0 l0 c0, .slice a1 l1 c1]) (by kernel_rfl) (D1.ok R _ h (gSlice_intro rfl (gSlice_intro rfl (g))))
end nat_Sub

namespace nat_Shl
noncomputable def C : Code := bodyOf Tryd.f43
def D2.t (R : Rt) (a8 : Option Addr) (l8 : Nat) (c8 : Nat) (h : Hp) : Prop :=
  HC nat_told.id #[.slice a8 l8 c8] h fun v14 h15 =>
  gTup v14 fun y16 =>
  uncons y16 fun v17 y17 =>
  gSlice v17 fun a_18 l_18 c_18 =>
  uncons y17 fun v19 y19 =>
  gInt .i64 v19 fun x_20 =>
  unnil y19 <| R (.tuple #[.slice a_18 l_18 c_18, .int .i64 x_20]) h15
def D2.g (R : Rt) (fr : Fr) (h : Hp) : Prop := gSlice (fr 8) fun a8 l8 c8 => D2.t R a8 l8 c8 h
theorem D2.ok (R : Rt) (fr : Fr) (h : Hp) (g : D2.g R fr h) : den prog E (cAt C [true, true, true, true, true, true, true, true]) (retQ E [.tmp 4, .tmp 5] R) fr h := by
  obtain ⟨a8, l8, c8, e8, g⟩ := gSlice_elim g
  exact den_enter [(8, .slice a8 l8 c8)] ⟨e8, trivial⟩ (by kernel_rfl) g
def L4.g (N : Option Addr → Nat → Nat → Int → Int → Option Addr → Nat → Nat → Int → Int → Hp → Prop) (fr : Fr) (h : Hp) : Prop := gSlice (fr 0) fun a0 l0 c0 => gInt .i64 (fr 6) fun x6 => gInt .i64 (fr 7) fun x7 => gSlice (fr 8) fun a8 l8 c8 => gInt .i64 (fr 34) fun x34 => gInt .i64 (fr 35) fun x35 => N a0 l0 c0 x6 x7 a8 l8 c8 x34 x35 h
def D5.t (R : Rt) (N4 : Option Addr → Nat → Nat → Int → Int → Option Addr → Nat → Nat → Int → Int → Hp → Prop) (a0 : Option Addr) (l0 : Nat) (c0 : Nat) (x6 : Int) (x7 : Int) (a8 : Option Addr) (l8 : Nat) (c8 : Nat) (x34 : Int) (x35 : Int) (h : Hp) : Prop :=
  cond (decide (x35 < x34)) (letK (IntKind.i64.wrap (x6 + x35)) fun n21 =>
  idxK a8 l8 n21 1 fun q22 =>
  ldK h q22 fun v23 =>
  gInt .u64 v23 fun x_24 =>
  idxK a0 l0 x35 1 fun q25 =>
  ldK h q25 fun v26 =>
  gInt .u64 v26 fun x_27 =>
  0 ≤ x7 ∧ letK (shlI .u64 x_27 x7) fun n28 =>
  letK (orI .u64 x_24 n28) fun n29 =>
  idxK a8 l8 n21 1 fun q30 =>
  stK h q30 (.int .u64 n29) fun h31 =>
  letK (IntKind.i64.wrap (x6 + x35)) fun n32 =>
  letK (IntKind.i64.wrap (n32 + 1)) fun n33 =>
  idxK a0 l0 x35 1 fun q34 =>
  ldK h31 q34 fun v35 =>
  gInt .u64 v35 fun x_36 =>
  0 ≤ (1 : Int) ∧ letK (shrI .u64 x_36 1) fun n37 =>
  letK (IntKind.i64.wrap (63 - x7)) fun n38 =>
  0 ≤ n38 ∧ letK (shrI .u64 n37 n38) fun n39 =>
  idxK a8 l8 n33 1 fun q40 =>
  stK h31 q40 (.int .u64 n39) fun h41 =>
  letK (IntKind.i64.wrap (x35 + 1)) fun n42 =>
  N4 a0 l0 c0 x6 x7 a8 l8 c8 x34 n42 h41) (D2.t R a8 l8 c8 h)
def D5.g (R : Rt) (N4 : Option Addr → Nat → Nat → Int → Int → Option Addr → Nat → Nat → Int → Int → Hp → Prop) (fr : Fr) (h : Hp) : Prop := gSlice (fr 0) fun a0 l0 c0 => gInt .i64 (fr 6) fun x6 => gInt .i64 (fr 7) fun x7 => gSlice (fr 8) fun a8 l8 c8 => gInt .i64 (fr 34) fun x34 => gInt .i64 (fr 35) fun x35 => D5.t R N4 a0 l0 c0 x6 x7 a8 l8 c8 x34 x35 h
theorem D5.ok (R : Rt) (N4 : Option Addr → Nat → Nat → Int → Int → Option Addr → Nat → Nat → Int → Int → Hp → Prop) (fr : Fr) (h : Hp) (g : D5.g R N4 fr h) : den prog E (cAt C [true, true, true, true, true, true, true, false, true, false, false]) (Ex.then (L4.g N4) (Ex.inBlock 0 (Ex.then (D2.g R) (retQ E [.tmp 4, .tmp 5] R)))) fr h := by
  obtain ⟨a0, l0, c0, e0, g⟩ := gSlice_elim g
  obtain ⟨x6, e6, g⟩ := gInt_elim g
  obtain ⟨x7, e7, g⟩ := gInt_elim g
  obtain ⟨a8, l8, c8, e8, g⟩ := gSlice_elim g
  obtain ⟨x34, e34, g⟩ := gInt_elim g
  obtain ⟨x35, e35, g⟩ := gInt_elim g
  exact den_enter [(0, .slice a0 l0 c0), (6, .int .i64 x6), (7, .int .i64 x7), (8, .slice a8 l8 c8), (34, .int .i64 x34), (35, .int .i64 x35)] ⟨e0, e6, e7, e8, e34, e35, trivial⟩ (by kernel_rfl) g
def L4.t (R : Rt) : Nat → Option Addr → Nat → Nat → Int → Int → Option Addr → Nat → Nat → Int → Int → Hp → Prop
  | 0 => fun _ _ _ _ _ _ _ _ _ _ _ => False
  | n + 1 => fun a0 l0 c0 x6 x7 a8 l8 c8 x34 x35 h => D5.t R (L4.t R n) a0 l0 c0 x6 x7 a8 l8 c8 x34 x35 h
theorem L4.ok (R : Rt) (fr : Fr) (h : Hp) (g : L4.g (fun a0 l0 c0 x6 x7 a8 l8 c8 x34 x35 h => ∃ n, L4.t R n a0 l0 c0 x6 x7 a8 l8 c8 x34 x35 h) fr h) : den prog E (cAt C [true, true, true, true, true, true, true, false, true, false]) (Ex.inBlock 0 (Ex.then (D2.g R) (retQ E [.tmp 4, .tmp 5] R))) fr h := by
  obtain ⟨a0, l0, c0, e0, g⟩ := gSlice_elim g
  obtain ⟨x6, e6, g⟩ := gInt_elim g
  obtain ⟨x7, e7, g⟩ := gInt_elim g
  obtain ⟨a8, l8, c8, e8, g⟩ := gSlice_elim g
  obtain ⟨x34, e34, g⟩ := gInt_elim g
  obtain ⟨x35, e35, g⟩ := gInt_elim g
  obtain ⟨n, g⟩ := g
  refine loop_ok (fun n => L4.g (L4.t R n)) (b := (cAt C [true, true, true, true, true, true, true, false, true, false, false])) (by kernel_rfl) (fun fr h g => ?_) (fun n => D5.ok R (L4.t R n)) n fr h (gSlice_intro e0 (gInt_intro e6 (gInt_intro e7 (gSlice_intro e8 (gInt_intro e34 (gInt_intro e35 (g)))))))
  obtain ⟨a0, l0, c0, e0, g⟩ := gSlice_elim g
  obtain ⟨x6, e6, g⟩ := gInt_elim g
  obtain ⟨x7, e7, g⟩ := gInt_elim g
  obtain ⟨a8, l8, c8, e8, g⟩ := gSlice_elim g
  obtain ⟨x34, e34, g⟩ := gInt_elim g
  obtain ⟨x35, e35, g⟩ := gInt_elim g
  exact g
theorem B6.ok (R : Rt) (fr : Fr) (h : Hp) (g : L4.g (fun a0 l0 c0 x6 x7 a8 l8 c8 x34 x35 h => ∃ n, L4.t R n a0 l0 c0 x6 x7 a8 l8 c8 x34 x35 h) fr h) : den prog E (cAt C [true, true, true, true, true, true, true, false, true]) (Ex.then (D2.g R) (retQ E [.tmp 4, .tmp 5] R)) fr h :=
  den_block (by kernel_rfl) (L4.ok R fr h g)
def D3.t (R : Rt) (a0 : Option Addr) (l0 : Nat) (c0 : Nat) (x6 : Int) (x7 : Int) (a8 : Option Addr) (l8 : Nat) (c8 : Nat) (h : Hp) : Prop :=
  (∃ n, L4.t R n a0 l0 c0 x6 x7 a8 l8 c8 (((l0 : Nat) : Int)) 0 h)
def D3.g (R : Rt) (fr : Fr) (h : Hp) : Prop := gSlice (fr 0) fun a0 l0 c0 => gInt .i64 (fr 6) fun x6 => gInt .i64 (fr 7) fun x7 => gSlice (fr 8) fun a8 l8 c8 => D3.t R a0 l0 c0 x6 x7 a8 l8 c8 h
theorem D3.ok (R : Rt) (fr : Fr) (h : Hp) (g : D3.g R fr h) : den prog E (cAt C [true, true, true, true, true, true, true, false]) (Ex.then (D2.g R) (retQ E [.tmp 4, .tmp 5] R)) fr h := by
  obtain ⟨a0, l0, c0, e0, g⟩ := gSlice_elim g
  obtain ⟨x6, e6, g⟩ := gInt_elim g
  obtain ⟨x7, e7, g⟩ := gInt_elim g
  obtain ⟨a8, l8, c8, e8, g⟩ := gSlice_elim g
  exact den_cut 1 (r := (cAt C [true, true, true, true, true, true, true, false, true])) (by kernel_rfl) (B6.ok R) (den_enter [(0, .slice a0 l0 c0), (6, .int .i64 x6), (7, .int .i64 x7), (8, .slice a8 l8 c8)] ⟨e0, e6, e7, e8, trivial⟩ (by kernel_rfl) g)
theorem W7.ok (R : Rt) (fr : Fr) (h : Hp) (g : D3.g R fr h) : den prog E (cAt C [true, true, true, true, true, true, true]) (retQ E [.tmp 4, .tmp 5] R) fr h :=
  den_then (by kernel_rfl) (D2.ok R) (D3.ok R fr h g)
def D1.t (R : Rt) (a0 : Option Addr) (l0 : Nat) (c0 : Nat) (x1 : Int) (h : Hp) : Prop :=
  cond (decide (x1 < 0)) (R (.tuple #[.slice none 0 0, .int .i64 1]) h) (HC nat_Form.id #[.slice a0 l0 c0] h fun v1 h2 =>
  gBool v1 fun b_3 =>
  cond (!b_3) (R (.tuple #[.slice none 0 0, .int .i64 2]) h2) (cond ((((l0 : Nat) : Int)) == 0) (R (.tuple #[.slice none 0 0, .int .i64 0]) h2) (HC nat_Bits.id #[.slice a0 l0 c0] h2 fun v4 h5 =>
  gInt .i64 v4 fun x_6 =>
  letK (IntKind.i64.wrap (524288 - x_6)) fun n7 =>
  cond (decide (x1 > n7)) (R (.tuple #[.slice none 0 0, .int .i64 5]) h5) ((64 : Int) ≠ 0 ∧ letK (IntKind.i64.wrap (Int.tdiv x1 64)) fun n8 =>
  (64 : Int) ≠ 0 ∧ letK (Int.tmod x1 64) fun n9 =>
  letK (IntKind.i64.wrap (n8 + (((l0 : Nat) : Int)))) fun n10 =>
  letK (IntKind.i64.wrap (n10 + 1)) fun n11 =>
  mkK h5 43 T43 n11 n11 fun q12 h13 =>
  D3.t R a0 l0 c0 n8 n9 (some q12) n11.toNat n11.toNat h13))))
def D1.g (R : Rt) (fr : Fr) (h : Hp) : Prop := gSlice (fr 0) fun a0 l0 c0 => gInt .i64 (fr 1) fun x1 => D1.t R a0 l0 c0 x1 h
theorem D1.ok (R : Rt) (fr : Fr) (h : Hp) (g : D1.g R fr h) : den prog E C (retQ E [.tmp 4, .tmp 5] R) fr h := by
  obtain ⟨a0, l0, c0, e0, g⟩ := gSlice_elim g
  obtain ⟨x1, e1, g⟩ := gInt_elim g
  exact den_cut 7 (r := (cAt C [true, true, true, true, true, true, true])) (by kernel_rfl) (W7.ok R) (den_enter [(0, .slice a0 l0 c0), (1, .int .i64 x1)] ⟨e0, e1, trivial⟩ (by kernel_rfl) g)
def t (a0 : Option Addr) (l0 : Nat) (c0 : Nat) (x1 : Int) (h : Hp) (R : Rt) : Prop := D1.t R a0 l0 c0 x1 h
theorem ok {a0 : Option Addr} {l0 : Nat} {c0 : Nat} {x1 : Int} {h : Hp} {R : Rt} (g : t a0 l0 c0 x1 h R) : HC id #[.slice a0 l0 c0, .int .i64 x1] h R :=
  calls_of_den' envOk (c := C) (rs := [.tmp 4, .tmp 5]) Tryd.func43 (by kernel_rfl) (by kernel_rfl) (by kernel_rfl) (args := [.slice a0 l0 c0, .int .i64 x1]) (by kernel_rfl) (D1.ok R _ h (gSlice_intro rfl (gInt_intro rfl (g))))
end nat_Shl

namespace natdiv_QuoRem
noncomputable def C : Code := bodyOf Tryd.f44
def D2.t (R : Rt) (a0 : Option Addr) (l0 : Nat) (c0 : Nat) (a1 : Option Addr) (l1 : Nat) (c1 : Nat) (h : Hp) : Prop :=
  cond ((((l1 : Nat) : Int)) == 0) (R (.tuple #[.slice none 0 0, .slice none 0 0, .int .i64 4]) h) (HC nat_Cmp.id #[.slice a0 l0 c0, .slice a1 l1 c1] h fun v7 h8 =>
  gInt .i64 v7 fun x_9 =>
  cond (decide (x_9 < 0)) (HC nat_Norm.id #[.slice a0 l0 c0] h8 fun v10 h11 =>
  gTup v10 fun y12 =>
  uncons y12 fun v13 y13 =>
  gSlice v13 fun a_14 l_14 c_14 =>
  uncons y13 fun v15 y15 =>
  gInt .i64 v15 fun x_16 =>
  unnil y15 <| R (.tuple #[.slice none 0 0, .slice a_14 l_14 c_14, .int .i64 0]) h11) (cond ((((l1 : Nat) : Int)) == 1) (idxK a1 l1 0 1 fun q17 =>
  ldK h8 q17 fun v18 =>
  gInt .u64 v18 fun x_19 =>
  HC nat_DivWord.id #[.slice a0 l0 c0, .int .u64 x_19] h8 fun v20 h21 =>
  gTup v20 fun y22 =>
  uncons y22 fun v23 y23 =>
  gSlice v23 fun a_24 l_24 c_24 =>
  uncons y23 fun v25 y25 =>
  gInt .u64 v25 fun x_26 =>
  uncons y25 fun v27 y27 =>
  gInt .i64 v27 fun x_28 =>
  unnil y27 <| HC nat_Word.id #[.int .u64 x_26] h21 fun v29 h30 =>
  gSlice v29 fun a_31 l_31 c_31 =>
  R (.tuple #[.slice a_24 l_24 c_24, .slice a_31 l_31 c_31, .int .i64 0]) h30) (letK (IntKind.i64.wrap ((((l1 : Nat) : Int)) - 1)) fun n32 =>
  idxK a1 l1 n32 1 fun q33 =>
  ldK h8 q33 fun v34 =>
  gInt .u64 v34 fun x_35 =>
  HC bits_LeadingZeros64.id #[.int .u64 x_35] h8 fun v36 h37 =>
  gInt .i64 v36 fun x_38 =>
  letK (IntKind.i64.wrap ((((l0 : Nat) : Int)) + 1)) fun n39 =>
  HC natdiv_shifted.id #[.slice a0 l0 c0, .int .i64 x_38, .int .i64 n39] h37 fun v40 h41 =>
  gSlice v40 fun a_42 l_42 c_42 =>
  HC natdiv_shifted.id #[.slice a1 l1 c1, .int .i64 x_38, .int .i64 (((l1 : Nat) : Int))] h41 fun v43 h44 =>
  gSlice v43 fun a_45 l_45 c_45 =>
  HC natdiv_long.id #[.slice a_42 l_42 c_42, .slice a_45 l_45 c_45] h44 fun v46 h47 =>
  gSlice v46 fun a_48 l_48 c_48 =>
  slK 1 a_42 l_42 c_42 none (some (.int .i64 (((l_45 : Nat) : Int)))) none fun a_49 l_49 c_49 =>
  HC nat_Norm.id #[.slice a_49 l_49 c_49] h47 fun v50 h51 =>
  gTup v50 fun y52 =>
  uncons y52 fun v53 y53 =>
  gSlice v53 fun a_54 l_54 c_54 =>
  uncons y53 fun v55 y55 =>
  gInt .i64 v55 fun x_56 =>
  unnil y55 <| HC nat_Shr.id #[.slice a_54 l_54 c_54, .int .i64 x_38] h51 fun v57 h58 =>
  gTup v57 fun y59 =>
  uncons y59 fun v60 y60 =>
  gSlice v60 fun a_61 l_61 c_61 =>
  uncons y60 fun v62 y62 =>
  gInt .i64 v62 fun x_63 =>
  unnil y62 <| HC nat_Norm.id #[.slice a_48 l_48 c_48] h58 fun v64 h65 =>
  gTup v64 fun y66 =>
  uncons y66 fun v67 y67 =>
  gSlice v67 fun a_68 l_68 c_68 =>
  uncons y67 fun v69 y69 =>
  gInt .i64 v69 fun x_70 =>
  unnil y69 <| R (.tuple #[.slice a_68 l_68 c_68, .slice a_61 l_61 c_61, .int .i64 0]) h65)))
def D2.g (R : Rt) (fr : Fr) (h : Hp) : Prop := gSlice (fr 0) fun a0 l0 c0 => gSlice (fr 1) fun a1 l1 c1 => D2.t R a0 l0 c0 a1 l1 c1 h
theorem D2.ok (R : Rt) (fr : Fr) (h : Hp) (g : D2.g R fr h) : den prog E (cAt C [true, true]) (retQ E [.tmp 4, .tmp 5, .tmp 6] R) fr h := by
  obtain ⟨a0, l0, c0, e0, g⟩ := gSlice_elim g
  obtain ⟨a1, l1, c1, e1, g⟩ := gSlice_elim g
  exact den_enter [(0, .slice a0 l0 c0), (1, .slice a1 l1 c1)] ⟨e0, e1, trivial⟩ (by kernel_rfl) g
def D1.t (R : Rt) (a0 : Option Addr) (l0 : Nat) (c0 : Nat) (a1 : Option Addr) (l1 : Nat) (c1 : Nat) (h : Hp) : Prop :=
  HC nat_Form.id #[.slice a0 l0 c0] h fun v1 h2 =>
  gBool v1 fun b_3 =>
  cond (!b_3) (R (.tuple #[.slice none 0 0, .slice none 0 0, .int .i64 2]) h2) (HC nat_Form.id #[.slice a1 l1 c1] h2 fun v4 h5 =>
  gBool v4 fun b_6 =>
  cond (!b_6) (R (.tuple #[.slice none 0 0, .slice none 0 0, .int .i64 2]) h5) (D2.t R a0 l0 c0 a1 l1 c1 h5))
def D1.g (R : Rt) (fr : Fr) (h : Hp) : Prop := gSlice (fr 0) fun a0 l0 c0 => gSlice (fr 1) fun a1 l1 c1 => D1.t R a0 l0 c0 a1 l1 c1 h
theorem D1.ok (R : Rt) (fr : Fr) (h : Hp) (g : D1.g R fr h) : den prog E C (retQ E [.tmp 4, .tmp 5, .tmp 6] R) fr h := by
  obtain ⟨a0, l0, c0, e0, g⟩ := gSlice_elim g
  obtain ⟨a1, l1, c1, e1, g⟩ := gSlice_elim g
  exact den_cut 2 (r := (cAt C [true, true])) (by kernel_rfl) (D2.ok R) (den_enter [(0, .slice a0 l0 c0), (1, .slice a1 l1 c1)] ⟨e0, e1, trivial⟩ (by kernel_rfl) g)
def t (a0 : Option Addr) (l0 : Nat) (c0 : Nat) (a1 : Option Addr) (l1 : Nat) (c1 : Nat) (h : Hp) (R : Rt) : Prop := D1.t R a0 l0 c0 a1 l1 c1 h
theorem ok {a0 : Option Addr} {l0 : Nat} {c0 : Nat} {a1 : Option Addr} {l1 : Nat} {c1 : Nat} {h : Hp} {R : Rt} (g : t a0 l0 c0 a1 l1 c1 h R) : HC id #[.slice a0 l0 c0, .slice a1 l1 c1] h R :=
  calls_of_den' envOk (c := C) (rs := [.tmp 4, .tmp 5, .tmp 6]) Tryd.func44 (by kernel_rfl) (by kernel_rfl) (by kernel_rfl) (args := [.slice a0 l0 c0, .slice a1 l1 c1]) (by kernel_rfl) (D1.ok R _ h (gSlice_intro rfl (gSlice_intro rfl (g))))
end natdiv_QuoRem

namespace natmul_Mul
noncomputable def C : Code := bodyOf Tryd.f45
def D2.t (R : Rt) (a0 : Option Addr) (l0 : Nat) (c0 : Nat) (a1 : Option Addr) (l1 : Nat) (c1 : Nat) (h : Hp) : Prop :=
  HC natmul_product.id #[.slice a0 l0 c0, .slice a1 l1 c1] h fun v7 h8 =>
  gSlice v7 fun a_9 l_9 c_9 =>
  HC natmul_told.id #[.slice a_9 l_9 c_9] h8 fun v10 h11 =>
  gTup v10 fun y12 =>
  uncons y12 fun v13 y13 =>
  gSlice v13 fun a_14 l_14 c_14 =>
  uncons y13 fun v15 y15 =>
  gInt .i64 v15 fun x_16 =>
  unnil y15 <| R (.tuple #[.slice a_14 l_14 c_14, .int .i64 x_16]) h11
def D2.g (R : Rt) (fr : Fr) (h : Hp) : Prop := gSlice (fr 0) fun a0 l0 c0 => gSlice (fr 1) fun a1 l1 c1 => D2.t R a0 l0 c0 a1 l1 c1 h
theorem D2.ok (R : Rt) (fr : Fr) (h : Hp) (g : D2.g R fr h) : den prog E (cAt C [true, true]) (retQ E [.tmp 4, .tmp 5] R) fr h := by
  obtain ⟨a0, l0, c0, e0, g⟩ := gSlice_elim g
  obtain ⟨a1, l1, c1, e1, g⟩ := gSlice_elim g
  exact den_enter [(0, .slice a0 l0 c0), (1, .slice a1 l1 c1)] ⟨e0, e1, trivial⟩ (by kernel_rfl) g
def D1.t (R : Rt) (a0 : Option Addr) (l0 : Nat) (c0 : Nat) (a1 : Option Addr) (l1 : Nat) (c1 : Nat) (h : Hp) : Prop :=
  HC nat_Form.id #[.slice a0 l0 c0] h fun v1 h2 =>
  gBool v1 fun b_3 =>
  cond (!b_3) (R (.tuple #[.slice none 0 0, .int .i64 2]) h2) (HC nat_Form.id #[.slice a1 l1 c1] h2 fun v4 h5 =>
  gBool v4 fun b_6 =>
  cond (!b_6) (R (.tuple #[.slice none 0 0, .int .i64 2]) h5) (D2.t R a0 l0 c0 a1 l1 c1 h5))
def D1.g (R : Rt) (fr : Fr) (h : Hp) : Prop := gSlice (fr 0) fun a0 l0 c0 => gSlice (fr 1) fun a1 l1 c1 => D1.t R a0 l0 c0 a1 l1 c1 h
theorem D1.ok (R : Rt) (fr : Fr) (h : Hp) (g : D1.g R fr h) : den prog E C (retQ E [.tmp 4, .tmp 5] R) fr h := by
  obtain ⟨a0, l0, c0, e0, g⟩ := gSlice_elim g
  obtain ⟨a1, l1, c1, e1, g⟩ := gSlice_elim g
  exact den_cut 2 (r := (cAt C [true, true])) (by kernel_rfl) (D2.ok R) (den_enter [(0, .slice a0 l0 c0), (1, .slice a1 l1 c1)] ⟨e0, e1, trivial⟩ (by kernel_rfl) g)
def t (a0 : Option Addr) (l0 : Nat) (c0 : Nat) (a1 : Option Addr) (l1 : Nat) (c1 : Nat) (h : Hp) (R : Rt) : Prop := D1.t R a0 l0 c0 a1 l1 c1 h
theorem ok {a0 : Option Addr} {l0 : Nat} {c0 : Nat} {a1 : Option Addr} {l1 : Nat} {c1 : Nat} {h : Hp} {R : Rt} (g : t a0 l0 c0 a1 l1 c1 h R) : HC id #[.slice a0 l0 c0, .slice a1 l1 c1] h R :=
  calls_of_den' envOk (c := C) (rs := [.tmp 4, .tmp 5]) Tryd.func45 (by kernel_rfl) (by kernel_rfl) (by kernel_rfl) (args := [.slice a0 l0 c0, .slice a1 l1 c1]) (by kernel_rfl) (D1.ok R _ h (gSlice_intro rfl (gSlice_intro rfl (g))))
end natmul_Mul

namespace gnomonref04_Of
noncomputable def C : Code := bodyOf Tryd.f46
def D1.t (R : Rt) (x0 : Int) (h : Hp) : Prop :=
  boxK h 47 T47.zs fun q1 h2 =>
  cond (decide (x0 < 0)) (letK (IntKind.i64.wrap (x0 + 1)) fun n3 =>
  letK (IntKind.i64.wrap (0 - n3)) fun n4 =>
  letK (IntKind.u64.wrap n4) fun n5 =>
  HC gnomonref01_Word.id #[.int .u64 n5] h2 fun v6 h7 =>
  gSlice v6 fun a_8 l_8 c_8 =>
  HC gnomonref01_Word.id #[.int .u64 1] h7 fun v9 h10 =>
  gSlice v9 fun a_11 l_11 c_11 =>
  HC gnomonref01_Add.id #[.slice a_8 l_8 c_8, .slice a_11 l_11 c_11] h10 fun v12 h13 =>
  gSlice v12 fun a_14 l_14 c_14 =>
  HC gnomonref04_Mk.id #[.bool true, .slice a_14 l_14 c_14] h13 fun v15 h16 =>
  gAgg v15 fun y17 =>
  uncons y17 fun v18 y18 =>
  gBool v18 fun b_19 =>
  uncons y18 fun v20 y20 =>
  gSlice v20 fun a_21 l_21 c_21 =>
  unnil y20 <| stK h16 (q1.add 0) (.bool b_19) fun h22 =>
  stK h22 (q1.add 1) (.slice a_21 l_21 c_21) fun h23 =>
  ldK h23 (q1.add 0) fun v24 =>
  gBool v24 fun b_25 =>
  ldK h23 (q1.add 1) fun v26 =>
  gSlice v26 fun a_27 l_27 c_27 =>
  R (.agg #[.bool b_25, .slice a_27 l_27 c_27]) h23) (letK (IntKind.u64.wrap x0) fun n28 =>
  HC gnomonref01_Word.id #[.int .u64 n28] h2 fun v29 h30 =>
  gSlice v29 fun a_31 l_31 c_31 =>
  HC gnomonref04_Mk.id #[.bool false, .slice a_31 l_31 c_31] h30 fun v32 h33 =>
  gAgg v32 fun y34 =>
  uncons y34 fun v35 y35 =>
  gBool v35 fun b_36 =>
  uncons y35 fun v37 y37 =>
  gSlice v37 fun a_38 l_38 c_38 =>
  unnil y37 <| stK h33 (q1.add 0) (.bool b_36) fun h39 =>
  stK h39 (q1.add 1) (.slice a_38 l_38 c_38) fun h40 =>
  ldK h40 (q1.add 0) fun v41 =>
  gBool v41 fun b_42 =>
  ldK h40 (q1.add 1) fun v43 =>
  gSlice v43 fun a_44 l_44 c_44 =>
  R (.agg #[.bool b_42, .slice a_44 l_44 c_44]) h40)
def D1.g (R : Rt) (fr : Fr) (h : Hp) : Prop := gInt .i64 (fr 0) fun x0 => D1.t R x0 h
theorem D1.ok (R : Rt) (fr : Fr) (h : Hp) (g : D1.g R fr h) : den prog E C (retQ E [.cell 2 47] R) fr h := by
  obtain ⟨x0, e0, g⟩ := gInt_elim g
  exact den_enter [(0, .int .i64 x0)] ⟨e0, trivial⟩ (by kernel_rfl) g
def t (x0 : Int) (h : Hp) (R : Rt) : Prop := D1.t R x0 h
theorem ok {x0 : Int} {h : Hp} {R : Rt} (g : t x0 h R) : HC id #[.int .i64 x0] h R :=
  calls_of_den' envOk (c := C) (rs := [.cell 2 47]) Tryd.func46 (by kernel_rfl) (by kernel_rfl) (by kernel_rfl) (args := [.int .i64 x0]) (by kernel_rfl) (D1.ok R _ h (gInt_intro rfl (g)))
end gnomonref04_Of

namespace gnomonref01_To
noncomputable def C : Code := bodyOf Tryd.f47
def D2.t (R : Rt) (a4 : Option Addr) (l4 : Nat) (c4 : Nat) (h : Hp) : Prop :=
  R (.slice a4 l4 c4) h
def D2.g (R : Rt) (fr : Fr) (h : Hp) : Prop := gSlice (fr 4) fun a4 l4 c4 => D2.t R a4 l4 c4 h
theorem D2.ok (R : Rt) (fr : Fr) (h : Hp) (g : D2.g R fr h) : den prog E (cAt C [true, true, true, true]) (retQ E [.tmp 2] R) fr h := by
  obtain ⟨a4, l4, c4, e4, g⟩ := gSlice_elim g
  exact den_enter [(4, .slice a4 l4 c4)] ⟨e4, trivial⟩ (by kernel_rfl) g
def L4.g (N : Option Addr → Nat → Nat → Option Addr → Nat → Nat → Int → Hp → Prop) (fr : Fr) (h : Hp) : Prop := gSlice (fr 3) fun a3 l3 c3 => gSlice (fr 4) fun a4 l4 c4 => gInt .i64 (fr 5) fun x5 => N a3 l3 c3 a4 l4 c4 x5 h
def D5.t (R : Rt) (N4 : Option Addr → Nat → Nat → Option Addr → Nat → Nat → Int → Hp → Prop) (a3 : Option Addr) (l3 : Nat) (c3 : Nat) (a4 : Option Addr) (l4 : Nat) (c4 : Nat) (x5 : Int) (h : Hp) : Prop :=
  cond (decide (x5 < (((l3 : Nat) : Int)))) (idxK a3 l3 x5 1 fun q8 =>
  ldK h q8 fun v9 =>
  gInt .u32 v9 fun x_10 =>
  letK (IntKind.u64.wrap x_10) fun n11 =>
  letK (IntKind.i64.wrap (x5 + 1)) fun n12 =>
  cond (decide (n12 < (((l3 : Nat) : Int)))) (letK (IntKind.i64.wrap (x5 + 1)) fun n13 =>
  idxK a3 l3 n13 1 fun q14 =>
  ldK h q14 fun v15 =>
  gInt .u32 v15 fun x_16 =>
  letK (IntKind.u64.wrap x_16) fun n17 =>
  0 ≤ (32 : Int) ∧ letK (shlI .u64 n17 32) fun n18 =>
  letK (IntKind.u64.wrap (n11 + n18)) fun n19 =>
  boxK h 43 [.int .u64 n19] fun q20 h21 =>
  apK h21 43 T43 a4 l4 c4 (.slice (some q20) 1 1) fun a_22 l_22 c_22 h22 =>
  letK (IntKind.i64.wrap (x5 + 2)) fun n23 =>
  N4 a3 l3 c3 a_22 l_22 c_22 n23 h22) (boxK h 43 [.int .u64 n11] fun q24 h25 =>
  apK h25 43 T43 a4 l4 c4 (.slice (some q24) 1 1) fun a_26 l_26 c_26 h26 =>
  letK (IntKind.i64.wrap (x5 + 2)) fun n27 =>
  N4 a3 l3 c3 a_26 l_26 c_26 n27 h26)) (D2.t R a4 l4 c4 h)
def D5.g (R : Rt) (N4 : Option Addr → Nat → Nat → Option Addr → Nat → Nat → Int → Hp → Prop) (fr : Fr) (h : Hp) : Prop := gSlice (fr 3) fun a3 l3 c3 => gSlice (fr 4) fun a4 l4 c4 => gInt .i64 (fr 5) fun x5 => D5.t R N4 a3 l3 c3 a4 l4 c4 x5 h
theorem D5.ok (R : Rt) (N4 : Option Addr → Nat → Nat → Option Addr → Nat → Nat → Int → Hp → Prop) (fr : Fr) (h : Hp) (g : D5.g R N4 fr h) : den prog E (cAt C [true, true, true, false, true, false, false]) (Ex.then (L4.g N4) (Ex.inBlock 0 (Ex.then (D2.g R) (retQ E [.tmp 2] R)))) fr h := by
  obtain ⟨a3, l3, c3, e3, g⟩ := gSlice_elim g
  obtain ⟨a4, l4, c4, e4, g⟩ := gSlice_elim g
  obtain ⟨x5, e5, g⟩ := gInt_elim g
  exact den_enter [(3, .slice a3 l3 c3), (4, .slice a4 l4 c4), (5, .int .i64 x5)] ⟨e3, e4, e5, trivial⟩ (by kernel_rfl) g
def L4.t (R : Rt) : Nat → Option Addr → Nat → Nat → Option Addr → Nat → Nat → Int → Hp → Prop
  | 0 => fun _ _ _ _ _ _ _ _ => False
  | n + 1 => fun a3 l3 c3 a4 l4 c4 x5 h => D5.t R (L4.t R n) a3 l3 c3 a4 l4 c4 x5 h
theorem L4.ok (R : Rt) (fr : Fr) (h : Hp) (g : L4.g (fun a3 l3 c3 a4 l4 c4 x5 h => ∃ n, L4.t R n a3 l3 c3 a4 l4 c4 x5 h) fr h) : den prog E (cAt C [true, true, true, false, true, false]) (Ex.inBlock 0 (Ex.then (D2.g R) (retQ E [.tmp 2] R))) fr h := by
  obtain ⟨a3, l3, c3, e3, g⟩ := gSlice_elim g
  obtain ⟨a4, l4, c4, e4, g⟩ := gSlice_elim g
  obtain ⟨x5, e5, g⟩ := gInt_elim g
  obtain ⟨n, g⟩ := g
  refine loop_ok (fun n => L4.g (L4.t R n)) (b := (cAt C [true, true, true, false, true, false, false])) (by kernel_rfl) (fun fr h g => ?_) (fun n => D5.ok R (L4.t R n)) n fr h (gSlice_intro e3 (gSlice_intro e4 (gInt_intro e5 (g))))
  obtain ⟨a3, l3, c3, e3, g⟩ := gSlice_elim g
  obtain ⟨a4, l4, c4, e4, g⟩ := gSlice_elim g
  obtain ⟨x5, e5, g⟩ := gInt_elim g
  exact g
theorem B6.ok (R : Rt) (fr : Fr) (h : Hp) (g : L4.g (fun a3 l3 c3 a4 l4 c4 x5 h => ∃ n, L4.t R n a3 l3 c3 a4 l4 c4 x5 h) fr h) : den prog E (cAt C [true, true, true, false, true]) (Ex.then (D2.g R) (retQ E [.tmp 2] R)) fr h :=
  den_block (by kernel_rfl) (L4.ok R fr h g)
def D3.t (R : Rt) (a3 : Option Addr) (l3 : Nat) (c3 : Nat) (a4 : Option Addr) (l4 : Nat) (c4 : Nat) (h : Hp) : Prop :=
  (∃ n, L4.t R n a3 l3 c3 a4 l4 c4 0 h)
def D3.g (R : Rt) (fr : Fr) (h : Hp) : Prop := gSlice (fr 3) fun a3 l3 c3 => gSlice (fr 4) fun a4 l4 c4 => D3.t R a3 l3 c3 a4 l4 c4 h
theorem D3.ok (R : Rt) (fr : Fr) (h : Hp) (g : D3.g R fr h) : den prog E (cAt C [true, true, true, false]) (Ex.then (D2.g R) (retQ E [.tmp 2] R)) fr h := by
  obtain ⟨a3, l3, c3, e3, g⟩ := gSlice_elim g
  obtain ⟨a4, l4, c4, e4, g⟩ := gSlice_elim g
  exact den_cut 1 (r := (cAt C [true, true, true, false, true])) (by kernel_rfl) (B6.ok R) (den_enter [(3, .slice a3 l3 c3), (4, .slice a4 l4 c4)] ⟨e3, e4, trivial⟩ (by kernel_rfl) g)
theorem W7.ok (R : Rt) (fr : Fr) (h : Hp) (g : D3.g R fr h) : den prog E (cAt C [true, true, true]) (retQ E [.tmp 2] R) fr h :=
  den_then (by kernel_rfl) (D2.ok R) (D3.ok R fr h g)
def D1.t (R : Rt) (a0 : Option Addr) (l0 : Nat) (c0 : Nat) (h : Hp) : Prop :=
  HC gnomonref01_Norm.id #[.slice a0 l0 c0] h fun v1 h2 =>
  gSlice v1 fun a_3 l_3 c_3 =>
  (2 : Int) ≠ 0 ∧ letK (IntKind.i64.wrap (Int.tdiv (((l_3 : Nat) : Int)) 2)) fun n4 =>
  letK (IntKind.i64.wrap (n4 + 1)) fun n5 =>
  mkK h2 43 T43 0 n5 fun q6 h7 =>
  D3.t R a_3 l_3 c_3 (some q6) ((0 : Int).toNat) n5.toNat h7
def D1.g (R : Rt) (fr : Fr) (h : Hp) : Prop := gSlice (fr 0) fun a0 l0 c0 => D1.t R a0 l0 c0 h
theorem D1.ok (R : Rt) (fr : Fr) (h : Hp) (g : D1.g R fr h) : den prog E C (retQ E [.tmp 2] R) fr h := by
  obtain ⟨a0, l0, c0, e0, g⟩ := gSlice_elim g
  exact den_cut 3 (r := (cAt C [true, true, true])) (by kernel_rfl) (W7.ok R) (den_enter [(0, .slice a0 l0 c0)] ⟨e0, trivial⟩ (by kernel_rfl) g)
def t (a0 : Option Addr) (l0 : Nat) (c0 : Nat) (h : Hp) (R : Rt) : Prop := D1.t R a0 l0 c0 h
theorem ok {a0 : Option Addr} {l0 : Nat} {c0 : Nat} {h : Hp} {R : Rt} (g : t a0 l0 c0 h R) : HC id #[.slice a0 l0 c0] h R :=
  calls_of_den' envOk (c := C) (rs := [.tmp 2]) Tryd.func47 (by kernel_rfl) (by kernel_rfl) (by kernel_rfl) (args := [.slice a0 l0 c0]) (by kernel_rfl) (D1.ok R _ h (gSlice_intro rfl (g)))
end gnomonref01_To

namespace gnomonref04_Mk
noncomputable def C : Code := bodyOf Tryd.f48
def D1.t (R : Rt) (b0 : Bool) (a1 : Option Addr) (l1 : Nat) (c1 : Nat) (h : Hp) : Prop :=
  boxK h 47 T47.zs fun q1 h2 =>
  HC gnomonref01_Norm.id #[.slice a1 l1 c1] h2 fun v3 h4 =>
  gSlice v3 fun a_5 l_5 c_5 =>
  cond b0 (stK h4 (q1.add 0) (.bool (decide ((((l_5 : Nat) : Int)) > 0))) fun h6 =>
  stK h6 (q1.add 1) (.slice a_5 l_5 c_5) fun h7 =>
  ldK h7 (q1.add 0) fun v8 =>
  gBool v8 fun b_9 =>
  ldK h7 (q1.add 1) fun v10 =>
  gSlice v10 fun a_11 l_11 c_11 =>
  R (.agg #[.bool b_9, .slice a_11 l_11 c_11]) h7) (stK h4 (q1.add 0) (.bool false) fun h12 =>
  stK h12 (q1.add 1) (.slice a_5 l_5 c_5) fun h13 =>
  ldK h13 (q1.add 0) fun v14 =>
  gBool v14 fun b_15 =>
  ldK h13 (q1.add 1) fun v16 =>
  gSlice v16 fun a_17 l_17 c_17 =>
  R (.agg #[.bool b_15, .slice a_17 l_17 c_17]) h13)
def D1.g (R : Rt) (fr : Fr) (h : Hp) : Prop := gBool (fr 0) fun b0 => gSlice (fr 1) fun a1 l1 c1 => D1.t R b0 a1 l1 c1 h
theorem D1.ok (R : Rt) (fr : Fr) (h : Hp) (g : D1.g R fr h) : den prog E C (retQ E [.cell 4 47] R) fr h := by
  obtain ⟨b0, e0, g⟩ := gBool_elim g
  obtain ⟨a1, l1, c1, e1, g⟩ := gSlice_elim g
  exact den_enter [(0, .bool b0), (1, .slice a1 l1 c1)] ⟨e0, e1, trivial⟩ (by kernel_rfl) g
def t (b0 : Bool) (a1 : Option Addr) (l1 : Nat) (c1 : Nat) (h : Hp) (R : Rt) : Prop := D1.t R b0 a1 l1 c1 h
theorem ok {b0 : Bool} {a1 : Option Addr} {l1 : Nat} {c1 : Nat} {h : Hp} {R : Rt} (g : t b0 a1 l1 c1 h R) : HC id #[.bool b0, .slice a1 l1 c1] h R :=
  calls_of_den' envOk (c := C) (rs := [.cell 4 47]) Tryd.func48 (by kernel_rfl) (by kernel_rfl) (by kernel_rfl) (args := [.bool b0, .slice a1 l1 c1]) (by kernel_rfl) (D1.ok R _ h (gBool_intro rfl (gSlice_intro rfl (g))))
end gnomonref04_Mk

namespace gnomonref01_From
noncomputable def C : Code := bodyOf Tryd.f49
def D2.t (R : Rt) (a3 : Option Addr) (l3 : Nat) (c3 : Nat) (h : Hp) : Prop :=
  HC gnomonref01_Norm.id #[.slice a3 l3 c3] h fun v4 h5 =>
  gSlice v4 fun a_6 l_6 c_6 =>
  R (.slice a_6 l_6 c_6) h5
def D2.g (R : Rt) (fr : Fr) (h : Hp) : Prop := gSlice (fr 3) fun a3 l3 c3 => D2.t R a3 l3 c3 h
theorem D2.ok (R : Rt) (fr : Fr) (h : Hp) (g : D2.g R fr h) : den prog E (cAt C [true, true, true]) (retQ E [.tmp 2] R) fr h := by
  obtain ⟨a3, l3, c3, e3, g⟩ := gSlice_elim g
  exact den_enter [(3, .slice a3 l3 c3)] ⟨e3, trivial⟩ (by kernel_rfl) g
def L4.g (N : Option Addr → Nat → Nat → Option Addr → Nat → Nat → Int → Hp → Prop) (fr : Fr) (h : Hp) : Prop := gSlice (fr 0) fun a0 l0 c0 => gSlice (fr 3) fun a3 l3 c3 => gInt .i64 (fr 4) fun x4 => N a0 l0 c0 a3 l3 c3 x4 h
def D5.t (R : Rt) (N4 : Option Addr → Nat → Nat → Option Addr → Nat → Nat → Int → Hp → Prop) (a0 : Option Addr) (l0 : Nat) (c0 : Nat) (a3 : Option Addr) (l3 : Nat) (c3 : Nat) (x4 : Int) (h : Hp) : Prop :=
  cond (decide (x4 < (((l0 : Nat) : Int)))) (idxK a0 l0 x4 1 fun q7 =>
  ldK h q7 fun v8 =>
  gInt .u64 v8 fun x_9 =>
  letK (andI .u64 x_9 4294967295) fun n10 =>
  letK (IntKind.u32.wrap n10) fun n11 =>
  idxK a0 l0 x4 1 fun q12 =>
  ldK h q12 fun v13 =>
  gInt .u64 v13 fun x_14 =>
  0 ≤ (32 : Int) ∧ letK (shrI .u64 x_14 32) fun n15 =>
  letK (IntKind.u32.wrap n15) fun n16 =>
  boxK h 81 [.int .u32 n11, .int .u32 n16] fun q17 h18 =>
  apK h18 81 T81 a3 l3 c3 (.slice (some q17) 2 2) fun a_19 l_19 c_19 h19 =>
  letK (IntKind.i64.wrap (x4 + 1)) fun n20 =>
  N4 a0 l0 c0 a_19 l_19 c_19 n20 h19) (D2.t R a3 l3 c3 h)
def D5.g (R : Rt) (N4 : Option Addr → Nat → Nat → Option Addr → Nat → Nat → Int → Hp → Prop) (fr : Fr) (h : Hp) : Prop := gSlice (fr 0) fun a0 l0 c0 => gSlice (fr 3) fun a3 l3 c3 => gInt .i64 (fr 4) fun x4 => D5.t R N4 a0 l0 c0 a3 l3 c3 x4 h
theorem D5.ok (R : Rt) (N4 : Option Addr → Nat → Nat → Option Addr → Nat → Nat → Int → Hp → Prop) (fr : Fr) (h : Hp) (g : D5.g R N4 fr h) : den prog E (cAt C [true, true, false, true, false, false]) (Ex.then (L4.g N4) (Ex.inBlock 0 (Ex.then (D2.g R) (retQ E [.tmp 2] R)))) fr h := by
  obtain ⟨a0, l0, c0, e0, g⟩ := gSlice_elim g
  obtain ⟨a3, l3, c3, e3, g⟩ := gSlice_elim g
  obtain ⟨x4, e4, g⟩ := gInt_elim g
  exact den_enter [(0, .slice a0 l0 c0), (3, .slice a3 l3 c3), (4, .int .i64 x4)] ⟨e0, e3, e4, trivial⟩ (by kernel_rfl) g
def L4.t (R : Rt) : Nat → Option Addr → Nat → Nat → Option Addr → Nat → Nat → Int → Hp → Prop
  | 0 => fun _ _ _ _ _ _ _ _ => False
  | n + 1 => fun a0 l0 c0 a3 l3 c3 x4 h => D5.t R (L4.t R n) a0 l0 c0 a3 l3 c3 x4 h
theorem L4.ok (R : Rt) (fr : Fr) (h : Hp) (g : L4.g (fun a0 l0 c0 a3 l3 c3 x4 h => ∃ n, L4.t R n a0 l0 c0 a3 l3 c3 x4 h) fr h) : den prog E (cAt C [true, true, false, true, false]) (Ex.inBlock 0 (Ex.then (D2.g R) (retQ E [.tmp 2] R))) fr h := by
  obtain ⟨a0, l0, c0, e0, g⟩ := gSlice_elim g
  obtain ⟨a3, l3, c3, e3, g⟩ := gSlice_elim g
  obtain ⟨x4, e4, g⟩ := gInt_elim g
  obtain ⟨n, g⟩ := g
  refine loop_ok (fun n => L4.g (L4.t R n)) (b := (cAt C [true, true, false, true, false, false])) (by kernel_rfl) (fun fr h g => ?_) (fun n => D5.ok R (L4.t R n)) n fr h (gSlice_intro e0 (gSlice_intro e3 (gInt_intro e4 (g))))
  obtain ⟨a0, l0, c0, e0, g⟩ := gSlice_elim g
  obtain ⟨a3, l3, c3, e3, g⟩ := gSlice_elim g
  obtain ⟨x4, e4, g⟩ := gInt_elim g
  exact g
theorem B6.ok (R : Rt) (fr : Fr) (h : Hp) (g : L4.g (fun a0 l0 c0 a3 l3 c3 x4 h => ∃ n, L4.t R n a0 l0 c0 a3 l3 c3 x4 h) fr h) : den prog E (cAt C [true, true, false, true]) (Ex.then (D2.g R) (retQ E [.tmp 2] R)) fr h :=
  den_block (by kernel_rfl) (L4.ok R fr h g)
def D3.t (R : Rt) (a0 : Option Addr) (l0 : Nat) (c0 : Nat) (a3 : Option Addr) (l3 : Nat) (c3 : Nat) (h : Hp) : Prop :=
  (∃ n, L4.t R n a0 l0 c0 a3 l3 c3 0 h)
def D3.g (R : Rt) (fr : Fr) (h : Hp) : Prop := gSlice (fr 0) fun a0 l0 c0 => gSlice (fr 3) fun a3 l3 c3 => D3.t R a0 l0 c0 a3 l3 c3 h
theorem D3.ok (R : Rt) (fr : Fr) (h : Hp) (g : D3.g R fr h) : den prog E (cAt C [true, true, false]) (Ex.then (D2.g R) (retQ E [.tmp 2] R)) fr h := by
  obtain ⟨a0, l0, c0, e0, g⟩ := gSlice_elim g
  obtain ⟨a3, l3, c3, e3, g⟩ := gSlice_elim g
  exact den_cut 1 (r := (cAt C [true, true, false, true])) (by kernel_rfl) (B6.ok R) (den_enter [(0, .slice a0 l0 c0), (3, .slice a3 l3 c3)] ⟨e0, e3, trivial⟩ (by kernel_rfl) g)
theorem W7.ok (R : Rt) (fr : Fr) (h : Hp) (g : D3.g R fr h) : den prog E (cAt C [true, true]) (retQ E [.tmp 2] R) fr h :=
  den_then (by kernel_rfl) (D2.ok R) (D3.ok R fr h g)
def D1.t (R : Rt) (a0 : Option Addr) (l0 : Nat) (c0 : Nat) (h : Hp) : Prop :=
  letK (IntKind.i64.wrap (2 * (((l0 : Nat) : Int)))) fun n1 =>
  mkK h 81 T81 0 n1 fun q2 h3 =>
  D3.t R a0 l0 c0 (some q2) ((0 : Int).toNat) n1.toNat h3
def D1.g (R : Rt) (fr : Fr) (h : Hp) : Prop := gSlice (fr 0) fun a0 l0 c0 => D1.t R a0 l0 c0 h
theorem D1.ok (R : Rt) (fr : Fr) (h : Hp) (g : D1.g R fr h) : den prog E C (retQ E [.tmp 2] R) fr h := by
  obtain ⟨a0, l0, c0, e0, g⟩ := gSlice_elim g
  exact den_cut 2 (r := (cAt C [true, true])) (by kernel_rfl) (W7.ok R) (den_enter [(0, .slice a0 l0 c0)] ⟨e0, trivial⟩ (by kernel_rfl) g)
def t (a0 : Option Addr) (l0 : Nat) (c0 : Nat) (h : Hp) (R : Rt) : Prop := D1.t R a0 l0 c0 h
theorem ok {a0 : Option Addr} {l0 : Nat} {c0 : Nat} {h : Hp} {R : Rt} (g : t a0 l0 c0 h R) : HC id #[.slice a0 l0 c0] h R :=
  calls_of_den' envOk (c := C) (rs := [.tmp 2]) Tryd.func49 (by kernel_rfl) (by kernel_rfl) (by kernel_rfl) (args := [.slice a0 l0 c0]) (by kernel_rfl) (D1.ok R _ h (gSlice_intro rfl (g)))
end gnomonref01_From

namespace nat_trim
noncomputable def C : Code := bodyOf Tryd.f50
def D2.t (R : Rt) (a0 : Option Addr) (l0 : Nat) (c0 : Nat) (x3 : Int) (h : Hp) : Prop :=
  slK 1 a0 l0 c0 none (some (.int .i64 x3)) none fun a_1 l_1 c_1 => R (.slice a_1 l_1 c_1) h
def D2.g (R : Rt) (fr : Fr) (h : Hp) : Prop := gSlice (fr 0) fun a0 l0 c0 => gInt .i64 (fr 3) fun x3 => D2.t R a0 l0 c0 x3 h
theorem D2.ok (R : Rt) (fr : Fr) (h : Hp) (g : D2.g R fr h) : den prog E (cAt C [true, true, true]) (retQ E [.tmp 2] R) fr h := by
  obtain ⟨a0, l0, c0, e0, g⟩ := gSlice_elim g
  obtain ⟨x3, e3, g⟩ := gInt_elim g
  exact den_enter [(0, .slice a0 l0 c0), (3, .int .i64 x3)] ⟨e0, e3, trivial⟩ (by kernel_rfl) g
def L3.g (N : Option Addr → Nat → Nat → Int → Hp → Prop) (fr : Fr) (h : Hp) : Prop := gSlice (fr 0) fun a0 l0 c0 => gInt .i64 (fr 3) fun x3 => N a0 l0 c0 x3 h
def D4.t (R : Rt) (N3 : Option Addr → Nat → Nat → Int → Hp → Prop) (a0 : Option Addr) (l0 : Nat) (c0 : Nat) (x3 : Int) (h : Hp) : Prop :=
  cond (decide (x3 > 0)) (letK (IntKind.i64.wrap (x3 - 1)) fun n2 =>
  idxK a0 l0 n2 1 fun q3 =>
  ldK h q3 fun v4 =>
  gInt .u64 v4 fun x_5 =>
  cond (x_5 == 0) (letK (IntKind.i64.wrap (x3 - 1)) fun n6 =>
  N3 a0 l0 c0 n6 h) (D2.t R a0 l0 c0 x3 h)) (D2.t R a0 l0 c0 x3 h)
def D4.g (R : Rt) (N3 : Option Addr → Nat → Nat → Int → Hp → Prop) (fr : Fr) (h : Hp) : Prop := gSlice (fr 0) fun a0 l0 c0 => gInt .i64 (fr 3) fun x3 => D4.t R N3 a0 l0 c0 x3 h
theorem D4.ok (R : Rt) (N3 : Option Addr → Nat → Nat → Int → Hp → Prop) (fr : Fr) (h : Hp) (g : D4.g R N3 fr h) : den prog E (cAt C [true, true, false, false, false]) (Ex.then (L3.g N3) (Ex.inBlock 0 (Ex.then (D2.g R) (retQ E [.tmp 2] R)))) fr h := by
  obtain ⟨a0, l0, c0, e0, g⟩ := gSlice_elim g
  obtain ⟨x3, e3, g⟩ := gInt_elim g
  exact den_enter [(0, .slice a0 l0 c0), (3, .int .i64 x3)] ⟨e0, e3, trivial⟩ (by kernel_rfl) g
def L3.t (R : Rt) : Nat → Option Addr → Nat → Nat → Int → Hp → Prop
  | 0 => fun _ _ _ _ _ => False
  | n + 1 => fun a0 l0 c0 x3 h => D4.t R (L3.t R n) a0 l0 c0 x3 h
theorem L3.ok (R : Rt) (fr : Fr) (h : Hp) (g : L3.g (fun a0 l0 c0 x3 h => ∃ n, L3.t R n a0 l0 c0 x3 h) fr h) : den prog E (cAt C [true, true, false, false]) (Ex.inBlock 0 (Ex.then (D2.g R) (retQ E [.tmp 2] R))) fr h := by
  obtain ⟨a0, l0, c0, e0, g⟩ := gSlice_elim g
  obtain ⟨x3, e3, g⟩ := gInt_elim g
  obtain ⟨n, g⟩ := g
  refine loop_ok (fun n => L3.g (L3.t R n)) (b := (cAt C [true, true, false, false, false])) (by kernel_rfl) (fun fr h g => ?_) (fun n => D4.ok R (L3.t R n)) n fr h (gSlice_intro e0 (gInt_intro e3 (g)))
  obtain ⟨a0, l0, c0, e0, g⟩ := gSlice_elim g
  obtain ⟨x3, e3, g⟩ := gInt_elim g
  exact g
theorem B5.ok (R : Rt) (fr : Fr) (h : Hp) (g : L3.g (fun a0 l0 c0 x3 h => ∃ n, L3.t R n a0 l0 c0 x3 h) fr h) : den prog E (cAt C [true, true, false]) (Ex.then (D2.g R) (retQ E [.tmp 2] R)) fr h :=
  den_block (by kernel_rfl) (L3.ok R fr h g)
theorem W6.ok (R : Rt) (fr : Fr) (h : Hp) (g : L3.g (fun a0 l0 c0 x3 h => ∃ n, L3.t R n a0 l0 c0 x3 h) fr h) : den prog E (cAt C [true, true]) (retQ E [.tmp 2] R) fr h :=
  den_then (by kernel_rfl) (D2.ok R) (B5.ok R fr h g)
def D1.t (R : Rt) (a0 : Option Addr) (l0 : Nat) (c0 : Nat) (h : Hp) : Prop :=
  (∃ n, L3.t R n a0 l0 c0 (((l0 : Nat) : Int)) h)
def D1.g (R : Rt) (fr : Fr) (h : Hp) : Prop := gSlice (fr 0) fun a0 l0 c0 => D1.t R a0 l0 c0 h
theorem D1.ok (R : Rt) (fr : Fr) (h : Hp) (g : D1.g R fr h) : den prog E C (retQ E [.tmp 2] R) fr h := by
  obtain ⟨a0, l0, c0, e0, g⟩ := gSlice_elim g
  exact den_cut 2 (r := (cAt C [true, true])) (by kernel_rfl) (W6.ok R) (den_enter [(0, .slice a0 l0 c0)] ⟨e0, trivial⟩ (by kernel_rfl) g)
def t (a0 : Option Addr) (l0 : Nat) (c0 : Nat) (h : Hp) (R : Rt) : Prop := D1.t R a0 l0 c0 h
theorem ok {a0 : Option Addr} {l0 : Nat} {c0 : Nat} {h : Hp} {R : Rt} (g : t a0 l0 c0 h R) : HC id #[.slice a0 l0 c0] h R :=
  calls_of_den' envOk (c := C) (rs := [.tmp 2]) Tryd.func50 (by kernel_rfl) (by kernel_rfl) (by kernel_rfl) (args := [.slice a0 l0 c0]) (by kernel_rfl) (D1.ok R _ h (gSlice_intro rfl (g)))
end nat_trim

namespace bits_Len64
noncomputable def C : Code := bodyOf Tryd.f51
def D4.t (R : Rt) (x0 : Int) (x2 : Int) (h : Hp) : Prop :=
  letK (IntKind.u8.wrap x0) fun n6 =>
  idxS (⟨#[0, 1, 2, 2, 3, 3, 3, 3, 4, 4, 4, 4, 4, 4, 4, 4, 5, 5, 5, 5, 5, 5, 5, 5, 5, 5, 5, 5, 5, 5, 5, 5, 6, 6, 6, 6, 6, 6, 6, 6, 6, 6, 6, 6, 6, 6, 6, 6, 6, 6, 6, 6, 6, 6, 6, 6, 6, 6, 6, 6, 6, 6, 6, 6, 7, 7, 7, 7, 7, 7, 7, 7, 7, 7, 7, 7, 7, 7, 7, 7, 7, 7, 7, 7, 7, 7, 7, 7, 7, 7, 7, 7, 7, 7, 7, 7, 7, 7, 7, 7, 7, 7, 7, 7, 7, 7, 7, 7, 7, 7, 7, 7, 7, 7, 7, 7, 7, 7, 7, 7, 7, 7, 7, 7, 7, 7, 7, 7, 8, 8, 8, 8, 8, 8, 8, 8, 8, 8, 8, 8, 8, 8, 8, 8, 8, 8, 8, 8, 8, 8, 8, 8, 8, 8, 8, 8, 8, 8, 8, 8, 8, 8, 8, 8, 8, 8, 8, 8, 8, 8, 8, 8, 8, 8, 8, 8, 8, 8, 8, 8, 8, 8, 8, 8, 8, 8, 8, 8, 8, 8, 8, 8, 8, 8, 8, 8, 8, 8, 8, 8, 8, 8, 8, 8, 8, 8, 8, 8, 8, 8, 8, 8, 8, 8, 8, 8, 8, 8, 8, 8, 8, 8, 8, 8, 8, 8, 8, 8, 8, 8, 8, 8, 8, 8, 8, 8, 8, 8, 8, 8, 8, 8, 8, 8, 8, 8, 8, 8, 8, 8, 8, 8, 8, 8, 8, 8]⟩ : ByteArray) n6 fun n7 =>
  letK (IntKind.i64.wrap n7) fun n8 =>
  letK (IntKind.i64.wrap (x2 + n8)) fun n9 =>
  R (.int .i64 n9) h
def D4.g (R : Rt) (fr : Fr) (h : Hp) : Prop := gInt .u64 (fr 0) fun x0 => gInt .i64 (fr 2) fun x2 => D4.t R x0 x2 h
theorem D4.ok (R : Rt) (fr : Fr) (h : Hp) (g : D4.g R fr h) : den prog E (cAt C [true, true, true, true]) (retQ E [.tmp 2] R) fr h := by
  obtain ⟨x0, e0, g⟩ := gInt_elim g
  obtain ⟨x2, e2, g⟩ := gInt_elim g
  exact den_enter [(0, .int .u64 x0), (2, .int .i64 x2)] ⟨e0, e2, trivial⟩ (by kernel_rfl) g
def D3.t (R : Rt) (x0 : Int) (x2 : Int) (h : Hp) : Prop :=
  cond (decide (x0 ≥ 256)) (0 ≤ (8 : Int) ∧ letK (shrI .u64 x0 8) fun n4 =>
  letK (IntKind.i64.wrap (x2 + 8)) fun n5 =>
  D4.t R n4 n5 h) (D4.t R x0 x2 h)
def D3.g (R : Rt) (fr : Fr) (h : Hp) : Prop := gInt .u64 (fr 0) fun x0 => gInt .i64 (fr 2) fun x2 => D3.t R x0 x2 h
theorem D3.ok (R : Rt) (fr : Fr) (h : Hp) (g : D3.g R fr h) : den prog E (cAt C [true, true, true]) (retQ E [.tmp 2] R) fr h := by
  obtain ⟨x0, e0, g⟩ := gInt_elim g
  obtain ⟨x2, e2, g⟩ := gInt_elim g
  exact den_cut 1 (r := (cAt C [true, true, true, true])) (by kernel_rfl) (D4.ok R) (den_enter [(0, .int .u64 x0), (2, .int .i64 x2)] ⟨e0, e2, trivial⟩ (by kernel_rfl) g)
def D2.t (R : Rt) (x0 : Int) (x2 : Int) (h : Hp) : Prop :=
  cond (decide (x0 ≥ 65536)) (0 ≤ (16 : Int) ∧ letK (shrI .u64 x0 16) fun n2 =>
  letK (IntKind.i64.wrap (x2 + 16)) fun n3 =>
  D3.t R n2 n3 h) (D3.t R x0 x2 h)
def D2.g (R : Rt) (fr : Fr) (h : Hp) : Prop := gInt .u64 (fr 0) fun x0 => gInt .i64 (fr 2) fun x2 => D2.t R x0 x2 h
theorem D2.ok (R : Rt) (fr : Fr) (h : Hp) (g : D2.g R fr h) : den prog E (cAt C [true, true]) (retQ E [.tmp 2] R) fr h := by
  obtain ⟨x0, e0, g⟩ := gInt_elim g
  obtain ⟨x2, e2, g⟩ := gInt_elim g
  exact den_cut 1 (r := (cAt C [true, true, true])) (by kernel_rfl) (D3.ok R) (den_enter [(0, .int .u64 x0), (2, .int .i64 x2)] ⟨e0, e2, trivial⟩ (by kernel_rfl) g)
def D1.t (R : Rt) (x0 : Int) (h : Hp) : Prop :=
  cond (decide (x0 ≥ 4294967296)) (0 ≤ (32 : Int) ∧ letK (shrI .u64 x0 32) fun n1 =>
  D2.t R n1 32 h) (D2.t R x0 0 h)
def D1.g (R : Rt) (fr : Fr) (h : Hp) : Prop := gInt .u64 (fr 0) fun x0 => D1.t R x0 h
theorem D1.ok (R : Rt) (fr : Fr) (h : Hp) (g : D1.g R fr h) : den prog E C (retQ E [.tmp 2] R) fr h := by
  obtain ⟨x0, e0, g⟩ := gInt_elim g
  exact den_cut 2 (r := (cAt C [true, true])) (by kernel_rfl) (D2.ok R) (den_enter [(0, .int .u64 x0)] ⟨e0, trivial⟩ (by kernel_rfl) g)
def t (x0 : Int) (h : Hp) (R : Rt) : Prop := D1.t R x0 h
theorem ok {x0 : Int} {h : Hp} {R : Rt} (g : t x0 h R) : HC id #[.int .u64 x0] h R :=
  calls_of_den' envOk (c := C) (rs := [.tmp 2]) Tryd.func51 (by kernel_rfl) (by kernel_rfl) (by kernel_rfl) (args := [.int .u64 x0]) (by kernel_rfl) (D1.ok R _ h (gInt_intro rfl (g)))
end bits_Len64

namespace nat_Shr
noncomputable def C : Code := bodyOf Tryd.f52
def D2.t (R : Rt) (a8 : Option Addr) (l8 : Nat) (c8 : Nat) (h : Hp) : Prop :=
  HC nat_told.id #[.slice a8 l8 c8] h fun v9 h10 =>
  gTup v9 fun y11 =>
  uncons y11 fun v12 y12 =>
  gSlice v12 fun a_13 l_13 c_13 =>
  uncons y12 fun v14 y14 =>
  gInt .i64 v14 fun x_15 =>
  unnil y14 <| R (.tuple #[.slice a_13 l_13 c_13, .int .i64 x_15]) h10
def D2.g (R : Rt) (fr : Fr) (h : Hp) : Prop := gSlice (fr 8) fun a8 l8 c8 => D2.t R a8 l8 c8 h
theorem D2.ok (R : Rt) (fr : Fr) (h : Hp) (g : D2.g R fr h) : den prog E (cAt C [true, true, true, true, true, true, true]) (retQ E [.tmp 4, .tmp 5] R) fr h := by
  obtain ⟨a8, l8, c8, e8, g⟩ := gSlice_elim g
  exact den_enter [(8, .slice a8 l8 c8)] ⟨e8, trivial⟩ (by kernel_rfl) g
def L4.g (N : Option Addr → Nat → Nat → Int → Int → Option Addr → Nat → Nat → Int → Int → Hp → Prop) (fr : Fr) (h : Hp) : Prop := gSlice (fr 0) fun a0 l0 c0 => gInt .i64 (fr 6) fun x6 => gInt .i64 (fr 7) fun x7 => gSlice (fr 8) fun a8 l8 c8 => gInt .i64 (fr 29) fun x29 => gInt .i64 (fr 30) fun x30 => N a0 l0 c0 x6 x7 a8 l8 c8 x29 x30 h
def D5.t (R : Rt) (N4 : Option Addr → Nat → Nat → Int → Int → Option Addr → Nat → Nat → Int → Int → Hp → Prop) (a0 : Option Addr) (l0 : Nat) (c0 : Nat) (x6 : Int) (x7 : Int) (a8 : Option Addr) (l8 : Nat) (c8 : Nat) (x29 : Int) (x30 : Int) (h : Hp) : Prop :=
  cond (decide (x30 < x29)) (letK (IntKind.i64.wrap (x6 + x30)) fun n16 =>
  idxK a0 l0 n16 1 fun q17 =>
  ldK h q17 fun v18 =>
  gInt .u64 v18 fun x_19 =>
  0 ≤ x7 ∧ letK (shrI .u64 x_19 x7) fun n20 =>
  idxK a8 l8 x30 1 fun q21 =>
  stK h q21 (.int .u64 n20) fun h22 =>
  letK (IntKind.i64.wrap (x6 + x30)) fun n23 =>
  letK (IntKind.i64.wrap (n23 + 1)) fun n24 =>
  cond (decide (n24 < (((l0 : Nat) : Int)))) (idxK a8 l8 x30 1 fun q25 =>
  ldK h22 q25 fun v26 =>
  gInt .u64 v26 fun x_27 =>
  letK (IntKind.i64.wrap (x6 + x30)) fun n28 =>
  letK (IntKind.i64.wrap (n28 + 1)) fun n29 =>
  idxK a0 l0 n29 1 fun q30 =>
  ldK h22 q30 fun v31 =>
  gInt .u64 v31 fun x_32 =>
  0 ≤ (1 : Int) ∧ letK (shlI .u64 x_32 1) fun n33 =>
  letK (IntKind.i64.wrap (63 - x7)) fun n34 =>
  0 ≤ n34 ∧ letK (shlI .u64 n33 n34) fun n35 =>
  letK (orI .u64 x_27 n35) fun n36 =>
  idxK a8 l8 x30 1 fun q37 =>
  stK h22 q37 (.int .u64 n36) fun h38 =>
  letK (IntKind.i64.wrap (x30 + 1)) fun n39 =>
  N4 a0 l0 c0 x6 x7 a8 l8 c8 x29 n39 h38) (letK (IntKind.i64.wrap (x30 + 1)) fun n40 =>
  N4 a0 l0 c0 x6 x7 a8 l8 c8 x29 n40 h22)) (D2.t R a8 l8 c8 h)
def D5.g (R : Rt) (N4 : Option Addr → Nat → Nat → Int → Int → Option Addr → Nat → Nat → Int → Int → Hp → Prop) (fr : Fr) (h : Hp) : Prop := gSlice (fr 0) fun a0 l0 c0 => gInt .i64 (fr 6) fun x6 => gInt .i64 (fr 7) fun x7 => gSlice (fr 8) fun a8 l8 c8 => gInt .i64 (fr 29) fun x29 => gInt .i64 (fr 30) fun x30 => D5.t R N4 a0 l0 c0 x6 x7 a8 l8 c8 x29 x30 h
theorem D5.ok (R : Rt) (N4 : Option Addr → Nat → Nat → Int → Int → Option Addr → Nat → Nat → Int → Int → Hp → Prop) (fr : Fr) (h : Hp) (g : D5.g R N4 fr h) : den prog E (cAt C [true, true, true, true, true, true, false, true, false, false]) (Ex.then (L4.g N4) (Ex.inBlock 0 (Ex.then (D2.g R) (retQ E [.tmp 4, .tmp 5] R)))) fr h := by
  obtain ⟨a0, l0, c0, e0, g⟩ := gSlice_elim g
  obtain ⟨x6, e6, g⟩ := gInt_elim g
  obtain ⟨x7, e7, g⟩ := gInt_elim g
  obtain ⟨a8, l8, c8, e8, g⟩ := gSlice_elim g
  obtain ⟨x29, e29, g⟩ := gInt_elim g
  obtain ⟨x30, e30, g⟩ := gInt_elim g
  exact den_enter [(0, .slice a0 l0 c0), (6, .int .i64 x6), (7, .int .i64 x7), (8, .slice a8 l8 c8), (29, .int .i64 x29), (30, .int .i64 x30)] ⟨e0, e6, e7, e8, e29, e30, trivial⟩ (by kernel_rfl) g
def L4.t (R : Rt) : Nat → Option Addr → Nat → Nat → Int → Int → Option Addr → Nat → Nat → Int → Int → Hp → Prop
  | 0 => fun _ _ _ _ _ _ _ _ _ _ _ => False
  | n + 1 => fun a0 l0 c0 x6 x7 a8 l8 c8 x29 x30 h => D5.t R (L4.t R n) a0 l0 c0 x6 x7 a8 l8 c8 x29 x30 h
theorem L4.ok (R : Rt) (fr : Fr) (h : Hp) (g : L4.g (fun a0 l0 c0 x6 x7 a8 l8 c8 x29 x30 h => ∃ n, L4.t R n a0 l0 c0 x6 x7 a8 l8 c8 x29 x30 h) fr h) : den prog E (cAt C [true, true, true, true, true, true, false, true, false]) (Ex.inBlock 0 (Ex.then (D2.g R) (retQ E [.tmp 4, .tmp 5] R))) fr h := by
  obtain ⟨a0, l0, c0, e0, g⟩ := gSlice_elim g
  obtain ⟨x6, e6, g⟩ := gInt_elim g
  obtain ⟨x7, e7, g⟩ := gInt_elim g
  obtain ⟨a8, l8, c8, e8, g⟩ := gSlice_elim g
  obtain ⟨x29, e29, g⟩ := gInt_elim g
  obtain ⟨x30, e30, g⟩ := gInt_elim g
  obtain ⟨n, g⟩ := g
  refine loop_ok (fun n => L4.g (L4.t R n)) (b := (cAt C [true, true, true, true, true, true, false, true, false, false])) (by kernel_rfl) (fun fr h g => ?_) (fun n => D5.ok R (L4.t R n)) n fr h (gSlice_intro e0 (gInt_intro e6 (gInt_intro e7 (gSlice_intro e8 (gInt_intro e29 (gInt_intro e30 (g)))))))
  obtain ⟨a0, l0, c0, e0, g⟩ := gSlice_elim g
  obtain ⟨x6, e6, g⟩ := gInt_elim g
  obtain ⟨x7, e7, g⟩ := gInt_elim g
  obtain ⟨a8, l8, c8, e8, g⟩ := gSlice_elim g
  obtain ⟨x29, e29, g⟩ := gInt_elim g
  obtain ⟨x30, e30, g⟩ := gInt_elim g
  exact g
theorem B6.ok (R : Rt) (fr : Fr) (h : Hp) (g : L4.g (fun a0 l0 c0 x6 x7 a8 l8 c8 x29 x30 h => ∃ n, L4.t R n a0 l0 c0 x6 x7 a8 l8 c8 x29 x30 h) fr h) : den prog E (cAt C [true, true, true, true, true, true, false, true]) (Ex.then (D2.g R) (retQ E [.tmp 4, .tmp 5] R)) fr h :=
  den_block (by kernel_rfl) (L4.ok R fr h g)
def D3.t (R : Rt) (a0 : Option Addr) (l0 : Nat) (c0 : Nat) (x6 : Int) (x7 : Int) (a8 : Option Addr) (l8 : Nat) (c8 : Nat) (h : Hp) : Prop :=
  (∃ n, L4.t R n a0 l0 c0 x6 x7 a8 l8 c8 (((l8 : Nat) : Int)) 0 h)
def D3.g (R : Rt) (fr : Fr) (h : Hp) : Prop := gSlice (fr 0) fun a0 l0 c0 => gInt .i64 (fr 6) fun x6 => gInt .i64 (fr 7) fun x7 => gSlice (fr 8) fun a8 l8 c8 => D3.t R a0 l0 c0 x6 x7 a8 l8 c8 h
theorem D3.ok (R : Rt) (fr : Fr) (h : Hp) (g : D3.g R fr h) : den prog E (cAt C [true, true, true, true, true, true, false]) (Ex.then (D2.g R) (retQ E [.tmp 4, .tmp 5] R)) fr h := by
  obtain ⟨a0, l0, c0, e0, g⟩ := gSlice_elim g
  obtain ⟨x6, e6, g⟩ := gInt_elim g
  obtain ⟨x7, e7, g⟩ := gInt_elim g
  obtain ⟨a8, l8, c8, e8, g⟩ := gSlice_elim g
  exact den_cut 1 (r := (cAt C [true, true, true, true, true, true, false, true])) (by kernel_rfl) (B6.ok R) (den_enter [(0, .slice a0 l0 c0), (6, .int .i64 x6), (7, .int .i64 x7), (8, .slice a8 l8 c8)] ⟨e0, e6, e7, e8, trivial⟩ (by kernel_rfl) g)
theorem W7.ok (R : Rt) (fr : Fr) (h : Hp) (g : D3.g R fr h) : den prog E (cAt C [true, true, true, true, true, true]) (retQ E [.tmp 4, .tmp 5] R) fr h :=
  den_then (by kernel_rfl) (D2.ok R) (D3.ok R fr h g)
def D1.t (R : Rt) (a0 : Option Addr) (l0 : Nat) (c0 : Nat) (x1 : Int) (h : Hp) : Prop :=
  cond (decide (x1 < 0)) (R (.tuple #[.slice none 0 0, .int .i64 1]) h) (HC nat_Form.id #[.slice a0 l0 c0] h fun v1 h2 =>
  gBool v1 fun b_3 =>
  cond (!b_3) (R (.tuple #[.slice none 0 0, .int .i64 2]) h2) ((64 : Int) ≠ 0 ∧ letK (IntKind.i64.wrap (Int.tdiv x1 64)) fun n4 =>
  (64 : Int) ≠ 0 ∧ letK (Int.tmod x1 64) fun n5 =>
  cond (decide (n4 ≥ (((l0 : Nat) : Int)))) (R (.tuple #[.slice none 0 0, .int .i64 0]) h2) (letK (IntKind.i64.wrap ((((l0 : Nat) : Int)) - n4)) fun n6 =>
  mkK h2 43 T43 n6 n6 fun q7 h8 =>
  D3.t R a0 l0 c0 n4 n5 (some q7) n6.toNat n6.toNat h8)))
def D1.g (R : Rt) (fr : Fr) (h : Hp) : Prop := gSlice (fr 0) fun a0 l0 c0 => gInt .i64 (fr 1) fun x1 => D1.t R a0 l0 c0 x1 h
theorem D1.ok (R : Rt) (fr : Fr) (h : Hp) (g : D1.g R fr h) : den prog E C (retQ E [.tmp 4, .tmp 5] R) fr h := by
  obtain ⟨a0, l0, c0, e0, g⟩ := gSlice_elim g
  obtain ⟨x1, e1, g⟩ := gInt_elim g
  exact den_cut 6 (r := (cAt C [true, true, true, true, true, true])) (by kernel_rfl) (W7.ok R) (den_enter [(0, .slice a0 l0 c0), (1, .int .i64 x1)] ⟨e0, e1, trivial⟩ (by kernel_rfl) g)
def t (a0 : Option Addr) (l0 : Nat) (c0 : Nat) (x1 : Int) (h : Hp) (R : Rt) : Prop := D1.t R a0 l0 c0 x1 h
theorem ok {a0 : Option Addr} {l0 : Nat} {c0 : Nat} {x1 : Int} {h : Hp} {R : Rt} (g : t a0 l0 c0 x1 h R) : HC id #[.slice a0 l0 c0, .int .i64 x1] h R :=
  calls_of_den' envOk (c := C) (rs := [.tmp 4, .tmp 5]) Tryd.func52 (by kernel_rfl) (by kernel_rfl) (by kernel_rfl) (args := [.slice a0 l0 c0, .int .i64 x1]) (by kernel_rfl) (D1.ok R _ h (gSlice_intro rfl (gInt_intro rfl (g))))
end nat_Shr

end Go.Proofs.YtpglfeeebnnkkaaDoor.G
