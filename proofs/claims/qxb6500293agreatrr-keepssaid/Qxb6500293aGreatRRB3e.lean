import Derived.Test.Qxb6500293aGreatRRB3d
namespace Go.Proofs.Qxb6500293aGreatRR
open Go.RowKit
open Ieee (double)
set_option linter.unusedVariables false
set_option linter.unusedSimpArgs false

set_option maxRecDepth 16000 in
set_option maxHeartbeats 16000000 in
def pt_B3e : Sp1 (pt_B3d.a1) :=
  Sp1.mk _ (fun bxh1 => by
    intro own W m a nb tp M i ca fa sa cc fc sc ml al fb fcp flt oa' oc' xa' xc' HT fn st cn h24 tl hi h5 c9 HH nf HF hf8 hf1 fl t3 ol hop HOC t4 sl hsk t2 xl hce HXC m8 HLN n1 n8 ix1 nq1 ix2 kx1 kx2 kx3 kx4 kx5 kx6 kx7 kx8 kx9 kx10 kx11 kx12 kx13 kx14 kx15 kx16 kx17 kx18 kx19 kx20 kx21 kx22 kx23 kx24 kx25 kx26 kx27 kx28 kx29 kx30 kx31 kx32 kx33 kx34 kx35 kx36 kx37 kx38 kx39 kx40 kx41 kx42 kx43 kx44 kx45 kx46 kx47 kx48 u19 u20 u21 u22 u23 u24 u25 u26 u27 u28 u29 u30 u31 u32 u33 u34 u35 u36 u37 u38 u39 u40 u41 u42 u43 u44 u45 u46 u47 u48 u49 u50 u51 u52 u53 u54 u55 u56 u57 u58 u59 u60 u61 u62 u63 u64 u65 u66 u67 u68 u69 u70 u71 u72 u73 u74 u75 u76 u77 u78 u79 u80 u81 u82 u83 u84 u85 u86 u87 u88 u89 u90 u91 u92 u93 u94 u95 u96 u97 u98 u99 u100 u101 u102 u103 u104 u105 u106 u107 u108 u109 u110 u111 u112 u113 u114 u115 u116 u117 u118 u119 u120 u121 u122 u123 HS0 jx1 jx2 gk u8 u11 u12 u13 u14 u15 u16 u17 u18 u145 u146 u147 u148 u149 u150 u151 u152 u153 u154 u155 u156 u157 u158 u159 u160 u161 u162 u163 u164 u165 u166 u167 u168 u169 u170 u171 u172 u173 u174 u175 u176 u177 u178 u179 u180 u181 u182 u183 u184 u185 u186 u187 u188 u189 u190 u191 u192 u193 u194 u195 u196 u197 u198 u199 u200 u201 u202 u203 u204 u205 u206 u207 u208 u209 u210 u211 u212 u213 u214 u215 u216 u217 u218 u219 u220 u221 u222 u223 u224 u225 u226 u227 u228 u229 u230 u231 u232 u233 u234 u235 u236 u237 u238 u239 u240 u241 u242 u243 u244 u245 u246 u247 u248 u249 u250 u251 u252 u253 u254 u255 u256 u257 u258 u259 u260 u261 u262 u263 u264 u265 u266 u267 u268 u269 u270 u271 u272 u273 u274 u275 u276 u277 u278 u279 u280 u281 u282 u283 u284 u285 u286 u287 u288 u289 u290 u291 u292 u293 u294 u295 u296 u297 u298 u299 u300 u301 u302 u303 u304 u305 u306 u307 u308 u309 u310 u311 u312 u313 u314 u315 u316 u317 u318 u319 u320 u321 u322 u323 u324 u325 u326 u327 u328 u329 u330 u331 u332 u333 u334 u335 u336 u337 u338 u339 u340 u341 u342 u343 u344 u345 u346 u347 u348 u349 u350 u351 u352 u353 u354 u355 u356 u357 u358 u359 u360 u361 u362 u363 u364 u365 u366 u367 u368 u369 u370 u371 u372 u373 u374 u375 u376 u377 u378 u379 u380 u381 u382 u383 u384 u385 u386 u387 u388 u389 u390 u391 u392 u393 u394 u395 u396 u397 u398 u399 u400 u401 u402 u403 u404 u405 u406 u407 u408 u409 u410 u411 u412 u413 u414 u415 u416 u417 u418 u419 u420 u421 u422 u423 u424 u425 u426 u427 u428 u429 u430 u431 u432 jx3 jx4 jx5 jx6 j o hjg ho q HR hjn
    have hjt : j < (M.t i).fr.length := by rw [← HLN.out.1]; exact hjn
    have hfj : (M.t i).fr[j]? = some (frAt (M.t i) j) := at_some hjt
    have hF := HT.out.frs j _ hfj
    have hcl := HH.out.2.1.clo hF.clo
    have hpr := HH.out.2.1.st.each _ (HH.out.2.1.prc hF.clo)
    obtain ⟨pb, pn, pcp, cb, cn', ccp, d1, d2, d3, d4, d5, d6, d7, d8, -, -, d9, d10⟩ := HH.out.1.protoAt hF.clo hcl.1
    obtain ⟨f0, f1, f2, f3, f4⟩ := HF.out j hjn
    have hcn : (frAt (M.t i) j).clo < cn' := by rw [d4]; exact hF.clo
    have hPn : (M.c (frAt (M.t i) j).clo).p < pn := by rw [d3]; exact hcl.1
    have hcn24 : cn' ≤ 24 := by rw [d4]; exact HH.out.2.1.cl.cs24
    have hpn13 : pn ≤ 13 := by rw [d3]; exact HH.out.2.1.st.pr13
    have e1 := d9.1
    have e2 := d10.2.1
    have e3 := d10.2.2.2.2.2.2.2
    have hpc := hF.pc
    have hret := hF.ret
    have hzero := hF.zero
    have hmid := hF.mid
    have hroom := hF.room
    have htop := hF.top
    have hgap := hF.gap
    have hEn : j + 1 < nf → endF (M.t i) j = (frAt (M.t i) (j + 1)).ret ∧ topF (M.t i) j = (frAt (M.t i) (j + 1)).base := fun h => ⟨if_pos (by rw [← HLN.out.1]; exact h), if_pos (by rw [← HLN.out.1]; exact h)⟩
    have hEl : ¬ j + 1 < nf → endF (M.t i) j = sl ∧ topF (M.t i) j = sl := fun h => ⟨by rw [HLN.out.2.2.1]; exact if_neg (by rw [← HLN.out.1]; exact h), by rw [HLN.out.2.2.1]; exact if_neg (by rw [← HLN.out.1]; exact h)⟩
    rw [← HLN.out.1] at hroom hgap
    rw [← HLN.out.2.2.1] at htop
    have HOI : Hid (∀ q c, o ≤ q → (M.t i).op[q]? = some c → (frAt (M.t i) j).base ≤ (M.x c).at') := fun q c h1 h2 => (HR.out.2 q c h1 h2).2
    have HNX : Hid (∀ o', (∀ c, (M.t i).op[o']? = some c → (frAt (M.t i) j).base + (M.p (frAt (M.t i) j).clo).ns ≤ (M.x c).at') → OI M (M.t i) o' (j + 1)) := fun o' h => OI_next HT.out hjt h
    clear HR hF hcl d3 d4 d9 d10 hfj hjt
    generalize endF (M.t i) j = en at *
    generalize topF (M.t i) j = tpp at *
    generalize (frAt (M.t i) j).clo = clo at *
    generalize (frAt (M.t i) j).pc = pc at *
    generalize (frAt (M.t i) j).base = base at *
    generalize (frAt (M.t i) j).ret = ret at *
    generalize (frAt (M.t i) j).prot = prot at *
    generalize (M.c clo).p = P at *
    generalize (M.p clo).ns = ns at *
    generalize (M.p clo).nc = nc at *
    revert own W m a nb tp M i ca fa sa cc fc sc ml al fb fcp flt oa' oc' xa' xc' HT fn st cn h24 tl hi h5 c9 HH nf HF hf8 hf1 fl t3 ol hop HOC t4 sl hsk t2 xl hce HXC m8 HLN n1 n8 ix1 nq1 ix2 kx1 kx2 kx3 kx4 kx5 kx6 kx7 kx8 kx9 kx10 kx11 kx12 kx13 kx14 kx15 kx16 kx17 kx18 kx19 kx20 kx21 kx22 kx23 kx24 kx25 kx26 kx27 kx28 kx29 kx30 kx31 kx32 kx33 kx34 kx35 kx36 kx37 kx38 kx39 kx40 kx41 kx42 kx43 kx44 kx45 kx46 kx47 kx48 u19 u20 u21 u22 u23 u24 u25 u26 u27 u28 u29 u30 u31 u32 u33 u34 u35 u36 u37 u38 u39 u40 u41 u42 u43 u44 u45 u46 u47 u48 u49 u50 u51 u52 u53 u54 u55 u56 u57 u58 u59 u60 u61 u62 u63 u64 u65 u66 u67 u68 u69 u70 u71 u72 u73 u74 u75 u76 u77 u78 u79 u80 u81 u82 u83 u84 u85 u86 u87 u88 u89 u90 u91 u92 u93 u94 u95 u96 u97 u98 u99 u100 u101 u102 u103 u104 u105 u106 u107 u108 u109 u110 u111 u112 u113 u114 u115 u116 u117 u118 u119 u120 u121 u122 u123 HS0 jx1 jx2 gk u8 u11 u12 u13 u14 u15 u16 u17 u18 u145 u146 u147 u148 u149 u150 u151 u152 u153 u154 u155 u156 u157 u158 u159 u160 u161 u162 u163 u164 u165 u166 u167 u168 u169 u170 u171 u172 u173 u174 u175 u176 u177 u178 u179 u180 u181 u182 u183 u184 u185 u186 u187 u188 u189 u190 u191 u192 u193 u194 u195 u196 u197 u198 u199 u200 u201 u202 u203 u204 u205 u206 u207 u208 u209 u210 u211 u212 u213 u214 u215 u216 u217 u218 u219 u220 u221 u222 u223 u224 u225 u226 u227 u228 u229 u230 u231 u232 u233 u234 u235 u236 u237 u238 u239 u240 u241 u242 u243 u244 u245 u246 u247 u248 u249 u250 u251 u252 u253 u254 u255 u256 u257 u258 u259 u260 u261 u262 u263 u264 u265 u266 u267 u268 u269 u270 u271 u272 u273 u274 u275 u276 u277 u278 u279 u280 u281 u282 u283 u284 u285 u286 u287 u288 u289 u290 u291 u292 u293 u294 u295 u296 u297 u298 u299 u300 u301 u302 u303 u304 u305 u306 u307 u308 u309 u310 u311 u312 u313 u314 u315 u316 u317 u318 u319 u320 u321 u322 u323 u324 u325 u326 u327 u328 u329 u330 u331 u332 u333 u334 u335 u336 u337 u338 u339 u340 u341 u342 u343 u344 u345 u346 u347 u348 u349 u350 u351 u352 u353 u354 u355 u356 u357 u358 u359 u360 u361 u362 u363 u364 u365 u366 u367 u368 u369 u370 u371 u372 u373 u374 u375 u376 u377 u378 u379 u380 u381 u382 u383 u384 u385 u386 u387 u388 u389 u390 u391 u392 u393 u394 u395 u396 u397 u398 u399 u400 u401 u402 u403 u404 u405 u406 u407 u408 u409 u410 u411 u412 u413 u414 u415 u416 u417 u418 u419 u420 u421 u422 u423 u424 u425 u426 u427 u428 u429 u430 u431 u432 jx3 jx4 jx5 jx6 j o hjg ho q hjn pb pn pcp cb cn' ccp d1 d2 d5 d6 d7 d8 hcn24 hpn13 en tpp htop hEn hEl clo f0 hcn pc f1 base f2 HOI ret f3 hret prot f4 hzero P hPn e1 ns HNX hmid hroom hgap e2 nc hpc e3 hpr
    exact bxh1.out
  )
end Go.Proofs.Qxb6500293aGreatRR
