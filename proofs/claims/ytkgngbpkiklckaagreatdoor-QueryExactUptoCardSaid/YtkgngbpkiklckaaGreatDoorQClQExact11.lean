/- Parts of a proof. -/
import Derived.Test.YtkgngbpkiklckaaGreatDoorQClQExact10
import Derived.Shelf.Strings.Fields
import Derived.Shelf.Strings.BuilderK
import Derived.Shelf.Strconv.Itoa3
import Derived.Test.YtkgngbpkiklckaaGreatDoorProg
import Derived.ArgAppend
set_option maxHeartbeats 12800000
namespace Go.Vc
open Go Go.Proofs
set_option maxRecDepth 20000
section
variable {w : World}
def shO (k : Nat) : List Value := [S (Ja3 k), I (Jc7 k), I (ofO k), I (Jb2 k), .bool (Jb6 k), .bool (Jm0 k)]
theorem shO_len (k : Nat) : (shO k).length = 6 := rfl
theorem Jt6 : Ret Tryz.prog 119 [] w (fun v w' => v = .slice (some ⟨w.heap.size, 0, none⟩) 27 27 ∧ Ja7 w' (some ⟨w.heap.size, 0, none⟩) ((List.range 27).flatMap shO) ∧ Kp [] w w') := by
 refine Ze Tryz.call119 Tryz.func119 ?_
 refine zS ?_
 refine Zb (shO 0) ?_
 refine Zb (shO 1) ?_
 refine Zb (shO 2) ?_
 refine Zb (shO 3) ?_
 refine Zb (shO 4) ?_
 refine Zb (shO 5) ?_
 refine Zb (shO 6) ?_
 refine Zb (shO 7) ?_
 refine Zb (shO 8) ?_
 refine Zb (shO 9) ?_
 refine Zb (shO 10) ?_
 refine Zb (shO 11) ?_
 refine Zb (shO 12) ?_
 refine Zb (shO 13) ?_
 refine Zb (shO 14) ?_
 refine Zb (shO 15) ?_
 refine Zb (shO 16) ?_
 refine Zb (shO 17) ?_
 refine Zb (shO 18) ?_
 refine Zb (shO 19) ?_
 refine Zb (shO 20) ?_
 refine Zb (shO 21) ?_
 refine Zb (shO 22) ?_
 refine Zb (shO 23) ?_
 refine Zb (shO 24) ?_
 refine Zb (shO 25) ?_
 refine Zb (shO 26) ?_
 refine Zn ((List.range 27).flatMap shO) rfl rfl rfl kR ?_
 intro b w1 hb hu
 subst hb
 refine zS ?_
 refine ⟨_, rfl, rfl, fun i v hv => ?_, hu.kp [] (.inr lR)⟩
 rw [Jc1, Nat.zero_add]
 exact hu.blk.cell hv
theorem opBox_ret (s : List UInt8) (k : Nat) {b : Nat} (hb : Blk w b [S s] 9) : Ret Tryz.prog 140 [.agg ⟨shO k⟩, ptr b] w (fun v w' => v = .bool (opT s k) ∧ Kp [] w w') := by
 unfold opT
 refine Ze Tryz.call140 Tryz.func140 ?_
 refine Ja9 ?_
 refine zS ?_
 refine Zx ?_
 intro b2 w1 hb2 hu
 have k1 : Kp [] w w1 := hu.new oM
 have hB : Blk w1 b [S s] 9 := k1.b0 hb
 have h2 : Blk w1 b2 (shO k) 118 := hu.blk
 refine zS ?_
 refine Zl (v := S (Ja3 k)) rfl h2 ?_
 refine zS ?_
 refine Zl rfl hB ?_
 refine zS ?_
 refine Ja5 _ _ rfl rfl rfl (fun h => ?_) (fun h => ?_)
 ·refine zS ?_
  refine Zl rfl hB ?_
  refine zS ?_
  exact ⟨_, rfl, by rw [h]; rfl, k1⟩
 ·refine zS ?_
  exact ⟨_, rfl, by rw [h]; rfl, k1⟩
theorem find_some {f : Nat → Bool} {n i : Nat} (hi : i < n) (h : f i = true) (hl : ∀ j, j < i → f j = false) : (List.range n).find? f = some i := by
 rw [List.find?_range_eq_some]
 exact ⟨h, List.mem_range.2 hi, fun j hj => by rw [hl j hj]; rfl⟩
theorem find_none {f : Nat → Bool} {n : Nat} (hl : ∀ j, j < n → f j = false) : (List.range n).find? f = none := by
 rw [List.find?_range_eq_none]
 exact fun j hj => by rw [hl j hj]; rfl
def ixV : Option Nat → Value
 | some k => I k
 | none => I (-1)
theorem Qk3 (s : List UInt8) {b a : Nat} (hb : Blk w b [S s] 9) (hr : Ja7 w (some ⟨a, 0, none⟩) ((List.range 27).flatMap shO)) : Ret Tryz.prog 139 [.slice (some ⟨a, 0, none⟩) 27 27, .func (.func 140) #[] #[ptr b]] w
  (fun v w' => v = ixV ((List.range 27).find? (opT s)) ∧ Kp [] w w') := by
 refine Ze Tryz.call139 Tryz.func139 ?_
 refine zS ?_
 refine Jb4 (α := Nat) [0, 1, 7, 8] (fun i => [.slice (some ⟨a, 0, none⟩) 27 27, .func (.func 140) #[] #[ptr b], I 27, I i]) (fun i W => i ≤ 27 ∧ Kp [] w W ∧ ∀ j, j < i → opT s j = false) (fun i => 27 - i) 0 rfl ⟨Nat.zero_le _, Kp.refl _ _, oM⟩ ?_
 rintro i e W ⟨hi, kW, hj⟩
 refine zS ?_
 refine r_if rfl (fun hc => ?_) (fun hc => ?_)
 ·have hi2 : i < 27 := oM
  have hrW := hr.kp kW sI
  refine zS ?_
  refine Jq2 (b := a) (off := 0 + i * 6) (vs := shO i) rfl (fun j v hv => by
   have h := hrW (i * 6 + j) v (Jm9 (f := shO) (m := 6) shO_len (List.getElem?_range hi2) hv)
   rw [← h, Jc1, show 0 + i * 6 + j = 0 + (i * 6 + j) by omega]) rfl rfl rfl rfl rfl rfl ?_
  refine Jq3 (first := #[]) (cap := #[ptr b]) (opBox_ret s i (kW.b0 hb)) rfl rfl rfl rfl ?_
  rintro v w2 ⟨rfl, k2⟩
  refine zS ?_
  refine Je1 rfl (fun h => ?_) (fun h => ?_)
  ·refine zS ?_
   exact ⟨_, rfl, by rw [find_some hi2 h hj]; rfl, kW.trans k2⟩
  ·refine zS ?_
   exact ⟨i + 1, rfl, ⟨oM, kW.trans k2, fun j hj2 => by
    by_cases c : j = i
    ·subst c; exact h
    ·exact hj j oM⟩, oM⟩
 ·have : i = 27 := oM
  subst this
  refine zS ?_
  exact ⟨_, rfl, by rw [find_none hj]; rfl, kW⟩
theorem Jw9 (s : List UInt8) : Ret Tryz.prog 104 [S s] w (fun v w' => v = I (opOf s) ∧ Kp [] w w') := by
 refine Ze Tryz.call104 Tryz.func104 ?_
 refine zS ?_
 refine Zx ?_
 intro b w1 hb hu
 have k1 : Kp [] w w1 := hu.new oM
 refine zS ?_
 refine Zc Jt6 ?_
 rintro v w2 ⟨rfl, hr, k2⟩
 refine zS ?_
 refine Zc (Qk3 s (k2.b0 hu.blk) hr) ?_
 rintro v w3 ⟨rfl, k3⟩
 unfold opOf
 cases (List.range 27).find? (opT s) with
 | none =>
  unfold ixV
  refine zS ?_
  exact ⟨_, rfl, rfl, (k1.trans k2).trans k3⟩
 | some k =>
  unfold ixV
  refine zS ?_
  exact ⟨_, rfl, by show I (max 0 (k : Int)) = I k; rw [Int.max_eq_right oM], (k1.trans k2).trans k3⟩
end
end Go.Vc
namespace Go.Proofs
open Go.Shelf
def Tryz.layFields_ren : Go.Shelf.Ren := ⟨fun | 157 => 142 | 229 => 175 | 199 => 176 | 261 => 190 | 311 => 200 | 312 => 201 | n => n, fun | 9 => 9 | 31 => 159 | 3 => 3 | 5 => 5 | 4 => 4 | 119 => 264 | 0 => 0 | 40 => 266 | 152 => 275 | 21 => 21 | 154 => 277 | 51 => 278 | 141 => 280 | 196 => 289 | 193 => 286 | 198 => 292 | 49 => 290 | 194 => 287 | 201 => 295 | 226 => 300 | 46 => 283 | 227 => 301 | 20 => 20 | n => n, fun | 0 => 0 | 6 => 1 | n => n⟩
theorem Tryz.layFields : Go.Proofs.Lays.n157 Tryz.prog Tryz.layFields_ren := {
 mixed := by kernel_rfl
 f157 := Tryz.func142.trans (congrArg some (by kernel_rfl))
 f199 := Tryz.func176.trans (congrArg some (by kernel_rfl))
 f229 := Tryz.func175.trans (congrArg some (by kernel_rfl))
 f261 := Tryz.func190.trans (congrArg some (by kernel_rfl))
 f311 := Tryz.func200.trans (congrArg some (by kernel_rfl))
 f312 := Tryz.func201.trans (congrArg some (by kernel_rfl))
 t0 := Tryz.underlying0
 a0 := Tryz.isAgg0
 z0 := Tryz.sizeOf0
 v0 := Tryz.zeroValue0
 t3 := Tryz.underlying3
 a3 := Tryz.isAgg3
 z3 := Tryz.sizeOf3
 v3 := Tryz.zeroValue3
 t4 := Tryz.underlying4
 a4 := Tryz.isAgg4
 z4 := Tryz.sizeOf4
 v4 := Tryz.zeroValue4
 t5 := Tryz.underlying5
 a5 := Tryz.isAgg5
 z5 := Tryz.sizeOf5
 v5 := Tryz.zeroValue5
 t9 := Tryz.underlying9
 a9 := Tryz.isAgg9
 z9 := Tryz.sizeOf9
 v9 := Tryz.zeroValue9
 t21 := Tryz.underlying21
 a21 := Tryz.isAgg21
 z21 := Tryz.sizeOf21
 v21 := Tryz.zeroValue21
 t31 := Tryz.underlying159
 a31 := Tryz.isAgg159
 z31 := Tryz.sizeOf159
 v31 := Tryz.zeroValue159
 t40 := Tryz.underlying266
 a40 := Tryz.isAgg266
 z40 := Tryz.sizeOf266
 v40 := Tryz.zeroValue266
 t46 := Tryz.underlying283
 a46 := Tryz.isAgg283
 z46 := Tryz.sizeOf283
 v46 := Tryz.zeroValue283
 t49 := Tryz.underlying290
 a49 := Tryz.isAgg290
 z49 := Tryz.sizeOf290
 v49 := Tryz.zeroValue290
 t51 := Tryz.underlying278
 a51 := Tryz.isAgg278
 z51 := Tryz.sizeOf278
 v51 := Tryz.zeroValue278
 t119 := Tryz.underlying264
 a119 := Tryz.isAgg264
 z119 := Tryz.sizeOf264
 t141 := Tryz.underlying280
 a141 := Tryz.isAgg280
 z141 := Tryz.sizeOf280
 v141 := Tryz.zeroValue280
 t152 := Tryz.underlying275
 a152 := Tryz.isAgg275
 z152 := Tryz.sizeOf275
 v152 := Tryz.zeroValue275
 t154 := Tryz.underlying277
 a154 := Tryz.isAgg277
 z154 := Tryz.sizeOf277
 v154 := Tryz.zeroValue277
 t193 := Tryz.underlying286
 a193 := Tryz.isAgg286
 z193 := Tryz.sizeOf286
 v193 := Tryz.zeroValue286
 t194 := Tryz.underlying287
 a194 := Tryz.isAgg287
 z194 := Tryz.sizeOf287
 v194 := Tryz.zeroValue287
 t196 := Tryz.underlying289
 a196 := Tryz.isAgg289
 z196 := Tryz.sizeOf289
 v196 := Tryz.zeroValue289
 t198 := Tryz.underlying292
 a198 := Tryz.isAgg292
 z198 := Tryz.sizeOf292
 v198 := Tryz.zeroValue292
 t201 := Tryz.underlying295
 a201 := Tryz.isAgg295
 z201 := Tryz.sizeOf295
 v201 := Tryz.zeroValue295
 t226 := Tryz.underlying300
 a226 := Tryz.isAgg300
 z226 := Tryz.sizeOf300
 v226 := Tryz.zeroValue300
 t227 := Tryz.underlying301
 a227 := Tryz.isAgg301
 z227 := Tryz.sizeOf301
 v227 := Tryz.zeroValue301
 g0 := by kernel_rfl
 g6 := by kernel_rfl }
def Tryz.layWB_ren : Go.Shelf.Ren := ⟨fun | 167 => 74 | 240 => 120 | 276 => 154 | n => n, fun | 70 => 89 | 5 => 5 | 75 => 166 | 0 => 0 | 72 => 92 | 37 => 90 | 4 => 4 | 164 => 258 | 80 => 95 | 9 => 9 | 20 => 20 | n => n, fun | n => n⟩
theorem Tryz.layWB : Go.Proofs.Lays.n167 Tryz.prog Tryz.layWB_ren := {
 mixed := by kernel_rfl
 f167 := Tryz.func74.trans (congrArg some (by kernel_rfl))
 f240 := Tryz.func120.trans (congrArg some (by kernel_rfl))
 f276 := Tryz.func154.trans (congrArg some (by kernel_rfl))
 t0 := Tryz.underlying0
 a0 := Tryz.isAgg0
 z0 := Tryz.sizeOf0
 v0 := Tryz.zeroValue0
 t4 := Tryz.underlying4
 a4 := Tryz.isAgg4
 z4 := Tryz.sizeOf4
 v4 := Tryz.zeroValue4
 t5 := Tryz.underlying5
 a5 := Tryz.isAgg5
 z5 := Tryz.sizeOf5
 v5 := Tryz.zeroValue5
 t9 := Tryz.underlying9
 a9 := Tryz.isAgg9
 z9 := Tryz.sizeOf9
 v9 := Tryz.zeroValue9
 t20 := Tryz.underlying20
 a20 := Tryz.isAgg20
 z20 := Tryz.sizeOf20
 v20 := Tryz.zeroValue20
 t37 := Tryz.underlying90
 a37 := Tryz.isAgg90
 z37 := Tryz.sizeOf90
 v37 := Tryz.zeroValue90
 t70 := Tryz.underlying89
 a70 := Tryz.isAgg89
 z70 := Tryz.sizeOf89
 v70 := Tryz.zeroValue89
 t72 := Tryz.underlying92
 a72 := Tryz.isAgg92
 z72 := Tryz.sizeOf92
 v72 := Tryz.zeroValue92
 t75 := Tryz.underlying166
 a75 := Tryz.isAgg166
 z75 := Tryz.sizeOf166
 v75 := Tryz.zeroValue166
 t164 := Tryz.underlying258
 a164 := Tryz.isAgg258
 z164 := Tryz.sizeOf258
 v164 := Tryz.zeroValue258 }
def Tryz.layWS_ren : Go.Shelf.Ren := ⟨fun | 166 => 75 | 240 => 120 | 276 => 154 | n => n, fun | 70 => 89 | 9 => 9 | 3 => 3 | 75 => 166 | 0 => 0 | 72 => 92 | 37 => 90 | 4 => 4 | 164 => 258 | 80 => 95 | 5 => 5 | 20 => 20 | n => n, fun | n => n⟩
theorem Tryz.layWS : Go.Proofs.Lays.n166 Tryz.prog Tryz.layWS_ren := {
 mixed := by kernel_rfl
 f166 := Tryz.func75.trans (congrArg some (by kernel_rfl))
 f240 := Tryz.func120.trans (congrArg some (by kernel_rfl))
 f276 := Tryz.func154.trans (congrArg some (by kernel_rfl))
 t0 := Tryz.underlying0
 a0 := Tryz.isAgg0
 z0 := Tryz.sizeOf0
 v0 := Tryz.zeroValue0
 t3 := Tryz.underlying3
 a3 := Tryz.isAgg3
 z3 := Tryz.sizeOf3
 v3 := Tryz.zeroValue3
 t4 := Tryz.underlying4
 a4 := Tryz.isAgg4
 z4 := Tryz.sizeOf4
 v4 := Tryz.zeroValue4
 t9 := Tryz.underlying9
 a9 := Tryz.isAgg9
 z9 := Tryz.sizeOf9
 v9 := Tryz.zeroValue9
 t20 := Tryz.underlying20
 a20 := Tryz.isAgg20
 z20 := Tryz.sizeOf20
 v20 := Tryz.zeroValue20
 t37 := Tryz.underlying90
 a37 := Tryz.isAgg90
 z37 := Tryz.sizeOf90
 v37 := Tryz.zeroValue90
 t70 := Tryz.underlying89
 a70 := Tryz.isAgg89
 z70 := Tryz.sizeOf89
 v70 := Tryz.zeroValue89
 t72 := Tryz.underlying92
 a72 := Tryz.isAgg92
 z72 := Tryz.sizeOf92
 v72 := Tryz.zeroValue92
 t75 := Tryz.underlying166
 a75 := Tryz.isAgg166
 z75 := Tryz.sizeOf166
 v75 := Tryz.zeroValue166
 t164 := Tryz.underlying258
 a164 := Tryz.isAgg258
 z164 := Tryz.sizeOf258
 v164 := Tryz.zeroValue258 }
def Tryz.layBS_ren : Go.Shelf.Ren := ⟨fun | 169 => 39 | n => n, fun | 70 => 89 | 9 => 9 | 0 => 0 | 72 => 92 | 37 => 90 | 127 => 172 | 3 => 3 | 5 => 5 | 20 => 20 | n => n, fun | n => n⟩
theorem Tryz.layBS : Go.Proofs.Lays.n169 Tryz.prog Tryz.layBS_ren := {
 mixed := by kernel_rfl
 f169 := Tryz.func39.trans (congrArg some (by kernel_rfl))
 t0 := Tryz.underlying0
 a0 := Tryz.isAgg0
 z0 := Tryz.sizeOf0
 v0 := Tryz.zeroValue0
 t3 := Tryz.underlying3
 a3 := Tryz.isAgg3
 z3 := Tryz.sizeOf3
 v3 := Tryz.zeroValue3
 t9 := Tryz.underlying9
 a9 := Tryz.isAgg9
 z9 := Tryz.sizeOf9
 v9 := Tryz.zeroValue9
 t37 := Tryz.underlying90
 a37 := Tryz.isAgg90
 z37 := Tryz.sizeOf90
 v37 := Tryz.zeroValue90
 t70 := Tryz.underlying89
 a70 := Tryz.isAgg89
 z70 := Tryz.sizeOf89
 v70 := Tryz.zeroValue89
 t72 := Tryz.underlying92
 a72 := Tryz.isAgg92
 z72 := Tryz.sizeOf92
 v72 := Tryz.zeroValue92
 t127 := Tryz.underlying172
 a127 := Tryz.isAgg172
 z127 := Tryz.sizeOf172
 v127 := Tryz.zeroValue172 }
def Tryz.layBL_ren : Go.Shelf.Ren := ⟨fun | 170 => 38 | n => n, fun | 70 => 89 | 3 => 3 | 0 => 0 | 72 => 92 | 37 => 90 | 5 => 5 | 20 => 20 | n => n, fun | n => n⟩
theorem Tryz.layBL : Go.Proofs.Lays.n170 Tryz.prog Tryz.layBL_ren := {
 mixed := by kernel_rfl
 f170 := Tryz.func38.trans (congrArg some (by kernel_rfl))
 t0 := Tryz.underlying0
 a0 := Tryz.isAgg0
 z0 := Tryz.sizeOf0
 v0 := Tryz.zeroValue0
 t3 := Tryz.underlying3
 a3 := Tryz.isAgg3
 z3 := Tryz.sizeOf3
 v3 := Tryz.zeroValue3
 t37 := Tryz.underlying90
 a37 := Tryz.isAgg90
 z37 := Tryz.sizeOf90
 v37 := Tryz.zeroValue90
 t70 := Tryz.underlying89
 a70 := Tryz.isAgg89
 z70 := Tryz.sizeOf89
 v70 := Tryz.zeroValue89
 t72 := Tryz.underlying92
 a72 := Tryz.isAgg92
 z72 := Tryz.sizeOf92
 v72 := Tryz.zeroValue92 }
def Tryz.layItoa_ren : Go.Shelf.Ren := ⟨fun | 171 => 76 | 243 => 121 | 246 => 155 | 283 => 180 | 284 => 181 | 285 => 182 | 286 => 183 | 129 => 193 | 317 => 192 | 318 => 194 | 319 => 195 | 320 => 196 | 337 => 203 | 338 => 204 | n => n, fun | 3 => 3 | 9 => 9 | 2 => 2 | 4 => 4 | 171 => 269 | 0 => 0 | 53 => 174 | 37 => 90 | 5 => 5 | 173 => 272 | 212 => 281 | 51 => 278 | 20 => 20 | 213 => 282 | 46 => 283 | 232 => 302 | 233 => 303 | n => n, fun | 17 => 2 | 18 => 3 | 19 => 4 | n => n⟩
theorem Tryz.layItoa : Go.Proofs.LaysM.n171 Tryz.prog Tryz.layItoa_ren := {
 mixed := by kernel_rfl
 f129 := Tryz.func193.trans (congrArg some (by kernel_rfl))
 f171 := Tryz.func76.trans (congrArg some (by kernel_rfl))
 f243 := Tryz.func121.trans (congrArg some (by kernel_rfl))
 f246 := Tryz.func155.trans (congrArg some (by kernel_rfl))
 f283 := Tryz.func180.trans (congrArg some (by kernel_rfl))
 f284 := Tryz.func181.trans (congrArg some (by kernel_rfl))
 f285 := Tryz.func182.trans (congrArg some (by kernel_rfl))
 f286 := Tryz.func183.trans (congrArg some (by kernel_rfl))
 f317 := Tryz.func192.trans (congrArg some (by kernel_rfl))
 f318 := Tryz.func194.trans (congrArg some (by kernel_rfl))
 f319 := Tryz.func195.trans (congrArg some (by kernel_rfl))
 f320 := Tryz.func196.trans (congrArg some (by kernel_rfl))
 f337 := Tryz.func203.trans (congrArg some (by kernel_rfl))
 f338 := Tryz.func204.trans (congrArg some (by kernel_rfl))
 t0 := Tryz.underlying0
 a0 := Tryz.isAgg0
 z0 := Tryz.sizeOf0
 v0 := Tryz.zeroValue0
 t2 := Tryz.underlying2
 a2 := Tryz.isAgg2
 z2 := Tryz.sizeOf2
 v2 := Tryz.zeroValue2
 t3 := Tryz.underlying3
 a3 := Tryz.isAgg3
 z3 := Tryz.sizeOf3
 v3 := Tryz.zeroValue3
 t4 := Tryz.underlying4
 a4 := Tryz.isAgg4
 z4 := Tryz.sizeOf4
 v4 := Tryz.zeroValue4
 t5 := Tryz.underlying5
 a5 := Tryz.isAgg5
 z5 := Tryz.sizeOf5
 v5 := Tryz.zeroValue5
 t9 := Tryz.underlying9
 a9 := Tryz.isAgg9
 z9 := Tryz.sizeOf9
 v9 := Tryz.zeroValue9
 t20 := Tryz.underlying20
 a20 := Tryz.isAgg20
 z20 := Tryz.sizeOf20
 v20 := Tryz.zeroValue20
 t37 := Tryz.underlying90
 a37 := Tryz.isAgg90
 z37 := Tryz.sizeOf90
 v37 := Tryz.zeroValue90
 t46 := Tryz.underlying283
 a46 := Tryz.isAgg283
 z46 := Tryz.sizeOf283
 v46 := Tryz.zeroValue283
 t51 := Tryz.underlying278
 a51 := Tryz.isAgg278
 z51 := Tryz.sizeOf278
 v51 := Tryz.zeroValue278
 t53 := Tryz.underlying174
 a53 := Tryz.isAgg174
 z53 := Tryz.sizeOf174
 v53 := Tryz.zeroValue174
 t171 := Tryz.underlying269
 a171 := Tryz.isAgg269
 z171 := Tryz.sizeOf269
 v171 := Tryz.zeroValue269
 t173 := Tryz.underlying272
 a173 := Tryz.isAgg272
 z173 := Tryz.sizeOf272
 v173 := Tryz.zeroValue272
 t212 := Tryz.underlying281
 a212 := Tryz.isAgg281
 z212 := Tryz.sizeOf281
 v212 := Tryz.zeroValue281
 t213 := Tryz.underlying282
 a213 := Tryz.isAgg282
 z213 := Tryz.sizeOf282
 t232 := Tryz.underlying302
 a232 := Tryz.isAgg302
 z232 := Tryz.sizeOf302
 v232 := Tryz.zeroValue302
 t233 := Tryz.underlying303
 a233 := Tryz.isAgg303
 z233 := Tryz.sizeOf303
 v233 := Tryz.zeroValue303
 g17 := by kernel_rfl
 g18 := by kernel_rfl
 g19 := by kernel_rfl
 i0 := by kernel_rfl
 i2 := by kernel_rfl
 i3 := by kernel_rfl
 i4 := by kernel_rfl
 i5 := by kernel_rfl
 i9 := by kernel_rfl
 i20 := by kernel_rfl
 i37 := by kernel_rfl
 i46 := by kernel_rfl
 i51 := by kernel_rfl
 i53 := by kernel_rfl
 i171 := by kernel_rfl
 i173 := by kernel_rfl
 i212 := by kernel_rfl
 i232 := by kernel_rfl
 i233 := by kernel_rfl
 m17 := by kernel_rfl
 m18 := by kernel_rfl
 m19 := by kernel_rfl }
end Go.Proofs

namespace Go.Vc
open Go
variable {P : Program} {n : Nat} {a : Act} {e : Env} {w : World} {K : Jc0} {X : List (Nat × Jc0)} {R : Jc0} {all : List Oper} {G : List Nat} {ro : Ro}
structure OwnO (w : World) (T : TypeId) (b off cap : Nat) (xs : List Value) : Prop where
 le : xs.length ≤ cap
 max : cap ≤ maxLen
 blk : ∃ pre junk, pre.length = off ∧ Blk w b (pre ++ (xs ++ junk)) T ∧ cap ≤ (xs ++ junk).length
theorem OwnO.kp {w' : World} {T : TypeId} {b off cap : Nat} {xs : List Value} {S : List Nat} (h : OwnO w T b off cap xs) (hk : Kp S w w') (hb : b ∉ S) : OwnO w' T b off cap xs :=
 ⟨h.le, h.max, by obtain ⟨p, j, h1, h2, h3⟩ := h.blk; exact ⟨p, j, h1, hk.blk hb h2, h3⟩⟩
theorem OwnO.lt {T : TypeId} {b off cap : Nat} {xs : List Value} (h : OwnO w T b off cap xs) : b < w.heap.size := by
 obtain ⟨_, _, _, h2, _⟩ := h.blk; exact h2.lt
theorem OwnO.get {T : TypeId} {b off cap : Nat} {xs : List Value} (h : OwnO w T b off cap xs) {i : Nat} {v : Value} (hv : xs[i]? = some v) : w.cell? ⟨b, off + i, none⟩ = some v := by
 obtain ⟨p, j, h1, h2, h3⟩ := h.blk
 refine h2.cell ?_
 rw [List.getElem?_append_right oM, h1, Nat.add_sub_cancel_left, List.getElem?_append_left (List.getElem?_eq_some_iff.1 hv).1]
 exact hv
theorem OwnO.tail {T : TypeId} {b off cap : Nat} {x : Value} {xs : List Value} (h : OwnO w T b off cap (x :: xs)) : OwnO w T b (offS off 1 cap 1) (cap - 1) xs := by
 have hl := h.le
 have hm := h.max
 rw [List.length_cons] at hl
 obtain ⟨p, j, h1, h2, h3⟩ := h.blk
 refine ⟨oM, oM, ?_⟩
 unfold offS
 by_cases hc : cap = 1
 ·rw [if_pos hc]
  have : xs = [] := List.eq_nil_of_length_eq_zero oM
  subst this
  exact ⟨p, x :: j, h1, h2, by simp; omega⟩
 ·rw [if_neg hc]
  refine ⟨p ++ [x], j, by simp; omega, ?_, ?_⟩
  ·simpa using h2
  ·simp only [List.length_append, List.length_cons] at h3 ⊢; omega
section
variable {dst : Option Tmp} {ty : TypeId} {pos : String} {after : Array Edge} {g : Option (Nat × Bool)} {l : List Oper} {t : TypeId} {x y : Operand}
end
end Go.Vc

namespace Go.Vc
open Go Go.Proofs
set_option maxRecDepth 20000
section
variable {w : World}
def AscW (w : World) : Prop := Lib.TabIs Tryz.prog w "strings.asciiSpace" .u8 Lib.asciiSpaceTab
theorem ascG : Tryz.prog.globalNamed "strings.asciiSpace" = some 0 := by kernel_rfl
theorem AscW.heap {w w' : World} (h : AscW w) (hk : w'.heap[0]? = w.heap[0]?) : AscW w' := by
 unfold AscW Lib.TabIs World.var? at *
 rw [ascG] at *
 simp only [Option.bind_some] at *
 rw [hk]; exact h
theorem AscW.lt {w : World} (h : AscW w) : 0 < w.heap.size := by
 unfold AscW Lib.TabIs World.var? at *
 rw [ascG] at *
 simp only [Option.bind_some] at *
 apply Classical.byContradiction
 intro hn
 rw [Array.getElem?_eq_none oM] at h
 simp at h
theorem AscW.kp {w w' : World} (h : AscW w) {Q : List Nat} (hk : Kp Q w w') (hQ : 0 ∉ Q) : AscW w' := h.heap (hk.at_ _ h.lt hQ)
def Jy4 : List UInt8 := [114, 101, 97, 100, 32, 119, 114, 105, 116, 101, 32, 108, 111, 111, 107, 32, 115, 101, 116, 32, 108, 111, 99, 107, 32, 117, 110, 108, 111, 99, 107, 32, 102, 111, 114, 107, 32, 106, 111, 105, 110, 32, 97, 114, 114, 105, 118, 101, 32, 100, 101, 112, 97, 114, 116, 32, 101, 120, 105, 116]
theorem kind_fields : Lib.fields Jy4 = Ja8 := by decide +kernel
theorem kind_ascii : ∀ b ∈ Jy4, b.toNat < 128 := by decide +kernel
theorem fieldsQ_ret (hA : AscW w) : Ret Tryz.prog 142 [S Jy4] w (fun v w' => v = .slice (some ⟨w.heap.size, 0, none⟩) 11 11 ∧ Ja7 w' (some ⟨w.heap.size, 0, none⟩) (Ja8.map S) ∧ Kp [] w w') := by
 refine ⟨Tryz.call142, ?_⟩
 refine Calls.mono (Any.strings_Fields Tryz.layFields kR ascG ⟨⟨Jy4⟩⟩ w dE (fun j b hj => kind_ascii b (List.mem_of_getElem? (by simpa using hj))) hA) ?_
 rintro e w' ⟨rfl, hw⟩
 have e1 : Lib.fields (ByteArray.mk ⟨Jy4⟩).data.toList = Ja8 := kind_fields
 rw [e1] at hw ⊢
 have hu : Upd w w.heap.size (.cells ⟨Ja8.map S⟩ 9 (0, 0)) w' := by rw [hw]; exact Je2 w _
 refine ⟨_, rfl, rfl, fun i v hv => ?_, hu.kp [] (.inr lR)⟩
 rw [Jc1, Nat.zero_add]
 exact hu.blk.cell hv
theorem kinds_ret (hA : AscW w) : Ret Tryz.prog 106 [] w (fun v w' => v = .slice (some ⟨w.heap.size, 0, none⟩) 11 11 ∧ Ja7 w' (some ⟨w.heap.size, 0, none⟩) (Ja8.map S) ∧ Kp [] w w') := by
 refine Ze Tryz.call106 Tryz.func106 ?_
 refine zS ?_
 refine Zc (fieldsQ_ret hA) ?_
 rintro v w1 ⟨rfl, hr, k1⟩
 refine zS ?_
 exact ⟨_, rfl, rfl, hr, k1⟩
def strIx (l : List (List UInt8)) (s : List UInt8) : Option Nat := (List.range l.length).find? fun i => decide (s = l.getD i [])
theorem strIx_mem {l : List (List UInt8)} {s : List UInt8} : (strIx l s).isSome = l.contains s := by
 unfold strIx
 rw [Bool.eq_iff_iff, List.find?_isSome, List.contains_iff_mem]
 constructor
 ·rintro ⟨i, hi, h⟩
  have hi := List.mem_range.1 hi
  have h := of_decide_eq_true h
  rw [List.getD_eq_getElem?_getD, List.getElem?_eq_getElem hi] at h
  rw [h]; exact List.getElem_mem hi
 ·intro h
  obtain ⟨i, hi, h⟩ := List.mem_iff_getElem.1 h
  exact ⟨i, List.mem_range.2 hi, by rw [List.getD_eq_getElem?_getD, List.getElem?_eq_getElem hi]; simp [h]⟩
theorem IndexStr_ret {ad : Option Addr} {cap : Nat} {l : List (List UInt8)} (hr : Ja7 w ad (l.map S)) (hl : l.length ≤ 9223372036854775806) (s : List UInt8) : Ret Tryz.prog 141 [.slice ad l.length cap, S s] w (fun v w' => v = ixV (strIx l s) ∧ w' = w) := by
 refine Ze Tryz.call141 Tryz.func141 ?_
 refine zS ?_
 refine Jb4 (α := Nat) [0, 1, 7, 8] (fun i => [.slice ad l.length cap, S s, I l.length, I i]) (fun i W => i ≤ l.length ∧ W = w ∧ ∀ j, j < i → decide (s = l.getD j []) = false) (fun i => l.length - i) 0 rfl ⟨Nat.zero_le _, rfl, oM⟩ ?_
 rintro i e W ⟨hi, rfl, hj⟩
 refine zS ?_
 refine r_if rfl (fun hc => ?_) (fun hc => ?_)
 ·have hi2 : i < l.length := oM
  obtain ⟨b, off, rfl, _, hcell⟩ := hr.at_ (by simp; omega)
  refine zS ?_
  refine Zo (v := S (l.getD i [])) rfl (hcell i _ (by rw [List.getElem?_map, List.getD_eq_getElem?_getD, List.getElem?_eq_getElem hi2]; rfl)) ?_
  refine zS ?_
  refine r_if rfl (fun h => ?_) (fun h => ?_)
  ·refine zS ?_
   exact ⟨_, rfl, by unfold strIx; rw [find_some hi2 (decide_eq_true h) hj]; rfl, rfl⟩
  ·refine zS ?_
   exact ⟨i + 1, rfl, ⟨oM, rfl, fun j hj2 => by
    by_cases c : j = i
    ·subst c; exact decide_eq_false h
    ·exact hj j oM⟩, oM⟩
 ·have : i = l.length := oM
  subst this
  refine zS ?_
  exact ⟨_, rfl, by unfold strIx; rw [find_none hj]; rfl, rfl⟩
theorem Jr9 {ad : Option Addr} {cap : Nat} {l : List (List UInt8)} (hr : Ja7 w ad (l.map S)) (hl : l.length ≤ 9223372036854775806) (s : List UInt8) : Ret Tryz.prog 105 [.slice ad l.length cap, S s] w (fun v w' => v = .bool (l.contains s) ∧ w' = w) := by
 rw [← strIx_mem]
 refine Ze Tryz.call105 Tryz.func105 ?_
 refine zS ?_
 refine Zc (IndexStr_ret hr hl s) ?_
 rintro v w' ⟨rfl, rfl⟩
 cases strIx l s with
 | none =>
  unfold ixV
  refine zS ?_
  exact ⟨_, rfl, rfl, rfl⟩
 | some k =>
  unfold ixV
  refine zS ?_
  exact ⟨_, rfl, by show Value.bool (decide ((0 : Int) ≤ k)) = _; simp, rfl⟩
def okN (s : List UInt8) (j : Nat) : Bool := Jb0 (s.getD j 0) || (decide (0 < j) && Jb3 (s.getD j 0))
theorem okN_all {s : List UInt8} (hs : s ≠ []) : ((s.head?.map Jb0).getD false && s.all fun c => Jb0 c || Jb3 c) = decide (∀ j, j < s.length → okN s j = true) := by
 cases s with
 | nil => exact absurd rfl hs
 | cons c r =>
  rw [Bool.eq_iff_iff, decide_eq_true_eq]
  simp only [List.head?_cons, Option.map_some, Option.getD_some, Bool.and_eq_true, List.all_cons, Bool.or_eq_true]
  constructor
  ·rintro ⟨h1, h2, h3⟩ j hj
   cases j with
   | zero => simp [okN, h1]
   | succ j =>
    have := List.all_eq_true.1 h3 (r.getD j 0) (by rw [List.getD_eq_getElem?_getD, List.getElem?_eq_getElem (by simpa using hj)]; exact List.getElem_mem _)
    simpa [okN] using this
  ·intro h
   have h0 : Jb0 c = true := by simpa [okN] using h 0 sI
   refine ⟨h0, .inl h0, List.all_eq_true.2 fun x hx => ?_⟩
   obtain ⟨j, hj, rfl⟩ := List.mem_iff_getElem.1 hx
   have := h (j + 1) (by simpa using hj)
   rw [okN, List.getD_cons_succ, List.getD_eq_getElem?_getD, List.getElem?_eq_getElem hj] at this
   simpa using this
theorem Jm6 (hA : AscW w) (s : List UInt8) (hl : s.length ≤ 9223372036854775806) : Ret Tryz.prog 59 [S s] w (fun v w' => v = .bool (Jc5 s) ∧ Kp [] w w') := by
 have hq : Jc5 s = (!s.isEmpty && decide (s.length ≤ 24) && decide (opOf s = 0) && !(Ja8.contains s) && ((s.head?.map Jb0).getD false && s.all fun c => Jb0 c || Jb3 c)) := by unfold Jc5; rw [Bool.and_assoc]
 refine Ze Tryz.call59 Tryz.func59 ?_
 refine Ja9 ?_
 refine zg ?_
 refine zO ?_
 refine Ja9 ?_
 refine Ja9 ?_
 refine Jr3 [0] [S s] 20 (decide (s = []) || decide (24 < s.length) || decide (opOf s ≠ 0) || Ja8.contains s) (fun W => Kp [] w W) ?_ ?_
 ·refine zS ?_
  refine Ja5 _ _ rfl rfl rfl (fun h1 => ?_) (fun h1 => ?_)
  ·refine zS ?_
   exact ⟨rfl, ⟨_, rfl, by rw [h1]; rfl⟩, Kp.refl _ _⟩
  refine zS ?_
  refine Ja5 _ _ rfl rfl rfl (fun h2 => ?_) (fun h2 => ?_)
  ·refine zS ?_
   exact ⟨rfl, ⟨_, rfl, by simp [show 24 < s.length from (by have h2 : (24 : Int) < s.length := of_decide_eq_true h2; omega)]⟩, Kp.refl _ _⟩
  refine zS ?_
  refine Zc (Jw9 s) ?_
  rintro v w1 ⟨rfl, k1⟩
  refine zS ?_
  refine Ja5 _ _ rfl rfl rfl (fun h3 => ?_) (fun h3 => ?_)
  ·refine zS ?_
   exact ⟨rfl, ⟨_, rfl, by simp [show opOf s ≠ 0 from (by simpa using h3)]⟩, k1⟩
  refine zS ?_
  refine Zc (kinds_ret (hA.kp k1 sI)) ?_
  rintro v w2 ⟨rfl, hr, k2⟩
  refine zS ?_
  refine Zc (Jr9 (l := Ja8) hr dE s) ?_
  rintro v w3 ⟨rfl, rfl⟩
  refine zS ?_
  refine ⟨rfl, ⟨_, rfl, ?_⟩, k1.trans k2⟩
  have e1 : decide (s = []) = false := h1
  have e2 : ¬ 24 < s.length := by have h2 : ¬ (24 : Int) < s.length := of_decide_eq_false h2; omega
  have e3 : opOf s = 0 := by simpa using h3
  simp [e2, e3]
  intro h
  rw [h] at e1; cases e1
 rintro e1 w1 k1
 refine Je1 rfl (fun hb => ?_) (fun hb => ?_)
 ·refine zS ?_
  refine ⟨_, rfl, ?_, k1⟩
  rw [hq]
  rcases Bool.or_eq_true _ _ ▸ hb with hb | hb
  ·rcases Bool.or_eq_true _ _ ▸ hb with hb | hb
   ·rcases Bool.or_eq_true _ _ ▸ hb with hb | hb
    ·have hb := of_decide_eq_true hb
     rw [hb]; rfl
    ·have hb := of_decide_eq_true hb
     rw [decide_eq_false (show ¬ s.length ≤ 24 by omega)]; simp
   ·have hb := of_decide_eq_true hb
    rw [decide_eq_false hb]; simp
  ·rw [hb]; simp
 ·simp only [Bool.or_eq_false_iff, decide_eq_false_iff_not, Decidable.not_not] at hb
  obtain ⟨⟨⟨b1, b2⟩, b3⟩, b4⟩ := hb
  rw [show (!s.isEmpty && decide (s.length ≤ 24) && decide (opOf s = 0) && !(Ja8.contains s)) = true by
   rw [b4, decide_eq_true b3, decide_eq_true (show s.length ≤ 24 by omega)]
   cases s with
   | nil => exact absurd rfl b1
   | cons c r => rfl, Bool.true_and, okN_all b1] at hq
  refine zS ?_
  refine Jb4 (α := Nat) [0, 22, 23] (fun i => [S s, I s.length, I i]) (fun i W => i ≤ s.length ∧ Kp [] w W ∧ ∀ j, j < i → okN s j = true) (fun i => s.length - i) 0 rfl ⟨Nat.zero_le _, k1, oM⟩ ?_
  rintro i e W ⟨hi, kW, hj⟩
  refine zS ?_
  refine r_if rfl (fun hc => ?_) (fun hc => ?_)
  ·have hi2 : i < s.length := oM
   refine zk ?_
   refine Ja9 ?_
   refine r_block ?_
   refine Ja9 ?_
   refine zg ?_
   refine zO ?_
   refine Ja9 ?_
   refine Jr3 [0, 22, 23] [S s, I s.length, I i] 52 (!okN s i) (fun W' => W' = W) ?_ ?_
   ·refine zg ?_
    unfold okN
    rw [Qa8, Js5]
    generalize hcc : s.getD i 0 = c
    have hcc' : s.getD (i : Int).toNat 0 = c := by rw [Ja2]; exact hcc
    repeat' first|refine zo rfl rfl (by first|exact trivial|(simp only[AllP];omega)|(simp(discharger:=omega)only[AllP,cA,cB];omega)|(simp only[AllP,cC,cD,cE,cF,cG];omega)) ?_|refine zn ?_|refine zT rfl rfl rfl ?_|refine zU rfl rfl rfl ?_|refine zV rfl rfl rfl ?_|refine Ja5 _ _ rfl rfl rfl (fun _ => ?_) (fun _ => ?_)
    all_goals (refine ⟨rfl, ⟨_, rfl, ?_⟩, rfl⟩; simp_all <;> omega)
   rintro e2 W' rfl
   refine Je1 rfl (fun h => ?_) (fun h => ?_)
   ·refine zS ?_
    refine ⟨_, rfl, ?_, kW⟩
    rw [hq, decide_eq_false (fun hh => by rw [hh i hi2] at h; cases h)]
   ·refine zS ?_
    exact ⟨i + 1, rfl, ⟨oM, kW, fun j hj2 => by
     by_cases c : j = i
     ·subst c; simpa using h
     ·exact hj j oM⟩, oM⟩
  ·have : i = s.length := oM
   subst this
   refine zS ?_
   exact ⟨_, rfl, by rw [hq, decide_eq_true hj], kW⟩
end
end Go.Vc
