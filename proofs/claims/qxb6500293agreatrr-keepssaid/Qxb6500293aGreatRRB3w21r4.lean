import Derived.Test.Qxb6500293aGreatRRB3w21c
namespace Go.Proofs.Qxb6500293aGreatRR
open Go.RowKit
open Ieee (double)
set_option linter.unusedVariables false
set_option linter.unusedSimpArgs false

set_option maxRecDepth 16000 in
set_option maxHeartbeats 16000000 in
theorem th_B3w21r4 : pt_B3w21c.a2 := by
  intro own W m a nb tp M i ca fa sa cc fc sc ml al fb fcp flt oa' oc' xa' xc' HT fn st cn h24 tl hi h5 c9 HH nf HF hf8 hf1 fl t3 ol hop HOC t4 xl hce HXC m8 n1 n8 ix1 nq1 ix2 kx1 kx2 kx3 kx4 kx5 kx6 kx7 kx8 kx9 kx10 kx11 kx12 kx13 kx14 kx15 kx16 kx17 kx18 kx19 kx20 kx21 kx22 kx23 kx24 kx25 kx26 kx27 kx28 kx29 kx30 kx31 kx32 kx33 kx34 kx35 kx36 kx37 kx38 kx39 kx40 kx41 kx42 kx43 kx44 kx45 kx46 kx47 kx48 u19 u20 u21 u22 u23 u24 u25 u26 u27 u28 u29 u30 u31 u32 u33 u34 u35 u36 u37 u38 u39 u40 u41 u42 u43 u44 u45 u46 u47 u48 u49 u50 u51 u52 u53 u54 u55 u56 u57 u58 u59 u60 u61 u62 u63 u64 u65 u66 u67 u68 u69 u70 u71 u72 u73 u74 u75 u76 u77 u78 u79 u80 u81 u82 u83 u84 u85 u86 u87 u88 u89 u90 u91 u92 u93 u94 u95 u96 u97 u98 u99 u100 u101 u102 u103 u104 u105 u106 u107 u108 u109 u110 u111 u112 u113 u114 u115 u116 u117 u118 u119 u120 u121 u122 u123 HS0 jx1 jx2 i1x1 i1x2 u11 u12 u13 u14 u15 u16 u17 i1x3 u145 u146 u147 u148 u149 u150 u151 u152 u153 u154 u155 u156 u157 u158 u159 u160 u161 u162 u163 u164 u165 u166 u167 u168 u169 u170 u171 u172 u173 u174 u175 u176 u177 u178 u179 u180 u181 u182 u183 u184 u185 u186 u187 u188 u189 u190 u191 u192 u193 u194 u195 u196 u197 u198 u199 u200 u201 u202 u203 u204 u205 u206 u207 u208 u209 u210 u211 u212 u213 u214 u215 u216 u217 u218 u219 u220 u221 u222 u223 u224 u225 u226 u227 u228 u229 u230 u231 u232 u233 u234 u235 u236 u237 u238 u239 u240 u241 u242 u243 u244 u245 u246 u247 u248 u249 u250 u251 u252 u253 u254 u255 u256 u257 u258 u259 u260 u261 u262 u263 u264 u265 u266 u267 u268 u269 u270 u271 u272 u273 u274 u275 u276 u277 u278 u279 u280 u281 u282 u283 u284 u285 u286 u287 u288 u289 u290 u291 u292 u293 u294 u295 u296 u297 u298 u299 u300 u301 u302 u303 u304 u305 u306 u307 u308 u309 u310 u311 u312 u313 u314 u315 u316 u317 u318 u319 u320 u321 u322 u323 u324 u325 u326 u327 u328 u329 u330 u331 u332 u333 u334 u335 u336 u337 u338 u339 i1x4 i1x5 i1x6 i1x7 i1x8 i1x9 i1x10 i1x11 i1x12 i1x13 i1x14 i1x15 i1x16 i1x17 i1x18 i1x19 i1x20 i1x21 i1x22 i1x23 i1x24 i1x25 i1x26 i1x27 i1x28 i1x29 i1x30 i1x31 i1x32 i1x33 i1x34 i1x35 i1x36 i1x37 i1x38 i1x39 i1x40 i1x41 i1x42 i1x43 i1x44 i1x45 i1x46 i1x47 i1x48 i1x49 i1x50 i1x51 i1x52 i1x53 i1x54 i1x55 i1x56 i1x57 i1x58 i1x59 i1x60 i1x61 i1x62 i1x63 i1x64 i1x65 i1x66 i1x67 i1x68 i1x69 i1x70 i1x71 i1x72 i1x73 i1x74 i1x75 i1x76 i1x77 i1x78 i1x79 i1x80 i1x81 i1x82 i1x83 i1x84 i1x85 i1x86 i1x87 i1x88 i1x89 i1x90 i1x91 i1x92 i1x93 i1x94 i1x95 u432 jx3 jx4 jx5 jx6 o ho q pb pn pcp cb cn' ccp d1 d2 d5 d6 d7 d8 hcn24 hpn13 tpp clo hcn pc P hPn e1 nc hpc e3 mid hnc9 g1 g2 m1 m2 m0 dd hw1 hw2 hw3 g4 g5 m4 m5 hdd hsk t2 HLN g6 m6 g7 hb9 hjg hjn f0 f1 HNX hj1 k1 HOI f2 f3 g3 m3 f4 e2 hpr hns12 hsum lx1 lx2 nqa lx3 nqb nqc nqd i0x1 nqf i0x2 gk u8 u18 u340 u341 u342 u343 u344 u345 u346 u347 u348 u349 u350 u351 u352 u353 u354 u355 u356 u357 u358 u359 u360 u361 u362 u363 u364 u365 u366 u367 u368 u369 u370 u371 u372 u373 u374 u375 u376 u377 u378 u379 u380 u381 u382 u383 u384 u385 u386 u387 u388 u389 u390 u391 u392 u393 u394 u395 u396 u397 u398 u399 u400 u401 u402 u403 u404 u405 u406 u407 u408 u409 u410 u411 u412 u413 u414 u415 u416 u417 u418 u419 u420 u421 u422 u423 u424 u425 u426 u427 u428 u429 u430 u431 i1x96 i1x97 i1x98 i1x99 o2 hog hoo q2 HW hol2
  have hoe : o2 = ol := by omega
  have dol : decide ((o2 : Int) < (ol : Int)) = false := decide_eq_false (by omega)
  have HEND : Hid (OI M (M.t i) o2 (0 + 1)) := HNX.out o2 (fun c' hc' => by
    have := (List.getElem?_eq_some_iff.1 hc').1
    have := HLN.out.2.1
    omega)
  subst hoe
  clear HW HOC HXC HOI HNX HF
  go_wp2_with fail
  go_roundg (nf - (0 + 1))
  case measure => omega
  case rel => exact ⟨0 + 1, o2, by go_num, rfl, by omega, by omega, ⟨_, rfl⟩, HEND.out⟩
end Go.Proofs.Qxb6500293aGreatRR
