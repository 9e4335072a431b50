/- Parts of a proof. -/
import Derived.Test.YtkgngbpkiklckaaGreatDoorQClQExact41
set_option maxHeartbeats 12800000
namespace Go.Vc
open Go Go.Proofs
set_option maxRecDepth 20000
section
variable {w : World}
theorem rel_n0 {g : RdG} {r : Except (Int × Int) TS} {i : Nat} {c f op num : Int} {name : List UInt8} {l : List QN} (h : PreS g i c f r) (hl : l = Ji5 op num name []) : Rel g (r >>= fun s => .ok (.n0 op num name, s)) i c f l := by
 cases r with
 | error q => exact h
 | ok s => exact ⟨h, by rw [hl]; rfl⟩
theorem op_own : ∀ j : Nat, j < 27 → 3 ≤ j → Jb0 ((Ja3 j).getD 0 0) = true → opOf (Ja3 j) = j := dE
theorem op_word {s : List UInt8} (h : opOf s ≠ 0) : Ja3 (opOf s) = s ∧ opOf s < 27 := by
 unfold opOf at h ⊢
 cases hf : (List.range 27).find? (opT s) with
 | none => rw [hf] at h; exact absurd rfl h
 | some k =>
  have h1 := List.find?_some hf
  have h2 := List.mem_range.1 (List.mem_of_find?_eq_some hf)
  unfold opT at h1
  rw [Bool.and_eq_true, decide_eq_true_eq] at h1
  exact ⟨h1.1, h2⟩
theorem call_bare : ∀ j : Nat, j < 27 → 4 ≤ j → Js3 j = Jm0 j := dE
theorem node0 {W : World} (op num : Int) (name : List UInt8) : Ret Tryz.prog 148 [I op, S name, I num, .slice none 0 0] W (fun v w' => ∃ k : KQ, v = kqV k ∧ k.l = Ji5 op num name [] ∧ Jl4 w' k ∧ Kp [] W w' ∧ ∀ b, b ∈ Ja1 k.ad → W.heap.size ≤ b) := by
 have := Qa4 (w := W) (ks := []) (kad := none) (kcap := 0) op num name rfl sI sI sI
 simpa using this
def wordX (m : Nat) (tk : Tok) (s : TS) : PR := match Jr4 tk.text with
 | some k => adv s >>= fun s' => .ok (.n0 1 k [], s')
 | none => if opOf tk.text ≠ 0 then wd (m + 1) (opOf tk.text) s else if Jc5 tk.text then (adv s >>= fun s' => .ok (.n0 2 0 tk.text, s')) else .error (301, s.pos)
theorem worded30_ret {m : Nat} (ih : Rd30 m 0 62) {g : RdG} {i : Nat} {f : Int} {tk : Tok} (h : RdA w g i 0 f) (htk : g.ts[i]? = some tk) (hI : tkI tk = 1) (htx : ∀ t ∈ g.ts, t.text.length ≤ 4096) (hn : 10 * (g.ts.length - i) ≤ m + 3) :
  Ret Tryz.prog 207 [ptr g.p] w (AnsW g i (wordX m tk (g.st i)) w) := by
 have hle := h.le
 have hln := h.len
 have hp := h.hdr.lt
 have hi := (List.getElem?_eq_some_iff.1 htk).1
 have hux := htx tk (List.mem_of_getElem? htk)
 have hpre := Jk5 (c := 0) (f := f) htk rfl
 have hlet : Jb0 (tk.text.getD 0 0) = true := by
  unfold tkI at hI
  split at hI
  ·omega
  ·split at hI
   ·assumption
   ·omega
 obtain ⟨b, off, he, hcell⟩ := Jy1 h htk
 have hd := h.hdr
 rw [he] at hd
 refine Ze Tryz.call207 Tryz.func207 ?_
 refine zS ?_
 refine Ja9 ?_
 refine Jc9 Ja0 kR ?_
 refine zN hd ?_
 refine Zq (v := S tk.text) rfl (fun w' h' => by rw [Ja2]; exact hcell w' h' 1 _ rfl) ?_
 refine zN hd ?_
 intro w1 k1
 refine zS ?_
 refine Zc Qe9 ?_
 rintro v w2 ⟨b4, rfl, g4, k2⟩
 have k02 := k1.trans k2
 have hkl : Ja8.length = 11 := rfl
 refine zS ?_
 refine Jb4 (α := Nat) [0, 3, 4, 5] (fun j => [ptr g.p, S tk.text, .slice (some ⟨b4, 0, none⟩) 11 11, I j]) (fun j W => j ≤ 11 ∧ W = w2 ∧ ∀ z ∈ Ja8.take j, tk.text ≠ z) (fun j => 11 - j) 0 rfl ⟨Nat.zero_le _, rfl, sI⟩ ?_
 rintro j e W ⟨hj, rfl, hno⟩
 have h2 := h.kp0 k02
 have y2 := k02.size
 refine zS ?_
 refine r_if rfl (fun hc => ?_) (fun hc => ?_)
 ·obtain ⟨z, hz⟩ : ∃ z, Ja8[j]? = some z := ⟨_, List.getElem?_eq_getElem oM⟩
  refine zS ?_
  refine Jf4 rfl g4 (v := S z) (by rw [Ja2, Nat.zero_add, List.getElem?_map, hz]; rfl) rfl rfl rfl rfl ?_
  refine zS ?_
  refine r_if rfl (fun hq => ?_) (fun hq => ?_)
  ·have hq : z = tk.text := hq
   have hkind : Jr4 tk.text = some (j + 1) := Qi8 hz hq.symm fun j' k' hj' hk' => hno k' (List.mem_of_getElem? (i := j') (by rw [List.getElem?_take_of_lt hj']; exact hk'))
   unfold wordX
   rw [hkind]
   refine zL h2.hdr ?_
   refine Zt (b := g.p) (off := 1) (v := I ((i : Int) + 1)) rfl h2.hdr sI ?_
   intro w3 hu3
   obtain ⟨h3, k3⟩ := Jl9 h2 hi hu3
   have y3 := k3.size
   clear hu3
   refine zS ?_
   refine Zc (node0 1 ((j : Int) + 1) []) ?_
   rintro v w4 ⟨k, rfl, hl, hk, k4, hn4⟩
   refine zS ?_
   exact ⟨_, rfl, k, i + 1, 0, f, rfl, hk, fun b hb => by have := hn4 b hb; omega, h3.kp0 k4, oM, by rw [hl]; simp [Ji5], rel_n0 hpre hl, ((k02.mono sI).trans k3).into k4 sI⟩
  ·have hq : ¬ z = tk.text := hq
   refine zS ?_
   refine ⟨j + 1, rfl, ⟨oM, rfl, fun y hy => ?_⟩, oM⟩
   rw [List.take_add_one, hz] at hy
   rcases List.mem_append.1 hy with hy | hy
   ·exact hno y hy
   ·rw [show y = z by simpa using hy]; exact fun q => hq q.symm
 obtain rfl : j = 11 := oM
 have hkn : Jr4 tk.text = none := Qg2 fun j' k' hj' => hno k' (by rw [show Ja8.take 11 = Ja8 from rfl]; exact List.mem_of_getElem? hj')
 have hX : wordX m tk (g.st i) = if opOf tk.text ≠ 0 then wd (m + 1) (opOf tk.text) (g.st i) else if Jc5 tk.text then (adv (g.st i) >>= fun s' => .ok (.n0 2 0 tk.text, s')) else .error (301, (g.st i).pos) := by
  unfold wordX
  rw [hkn]
 rw [hX]
 clear hX hno hj
 refine zS ?_
 refine Jb4 (α := Nat) [0, 3, 6] (fun j => [ptr g.p, S tk.text, I j]) (fun j W' => 3 ≤ j ∧ j ≤ 27 ∧ Kp [] W W' ∧ ∀ k, 3 ≤ k → k < j → Ja3 k = tk.text → k ≠ 3 ∧ Jb6 k = false ∧ Jm0 k = false) (fun j => 27 - j) 3 rfl ⟨oM, oM, Kp.refl _ _, fun k h1 h2 => oM⟩ ?_
 rintro j e W3 ⟨hj1, hj2, kW, hno⟩
 have h3 := h2.kp0 kW
 have y3 := kW.size
 have k03 := k02.trans kW
 refine zS ?_
 refine r_if rfl (fun hc => ?_) (fun hc => ?_)
 ·refine zS ?_
  refine Zc (Jl0 (j : Int)) ?_
  rintro v w4 ⟨rfl, k4⟩
  refine zS ?_
  refine Za ?_
  intro b7 w5 e5 hu5
  refine Zs (b := b7) (cs := rtC (rtO j)) rfl hu5.blk lR rfl (by simp [Value.oneCell', rtC]) ?_
  intro w6 hu6
  have k46 : Kp [] w4 w6 := (hu5.new oM).since (hu6.kp [b7] (.inl sI)) (by simp; omega)
  have hrt := Jr5 (op := (j : Int)) oM oM
  rw [show ((j : Int)).toNat = j by omega] at hrt
  have g7 : Blk w6 b7 [S (Ja3 j), I (Jc7 j : Nat), I (rtO j).of_, I (rtO j).ans, .bool (Jb6 j)] 154 := by
   rw [← hrt.1, ← hrt.2.2.2.1, ← hrt.2.2.2.2]; exact hu6.blk
  have k6 := (kW.trans k4).trans k46
  have k06 := k02.trans k6
  have h6 := h2.kp0 k6
  have y6 := k6.size
  clear hu5 hu6 hrt
  refine zL g7 ?_
  refine Jn8 rfl (fun hq => ?_) (fun hq => ?_)
  ·have hq : ¬ Ja3 j = tk.text := hq
   refine zS ?_
   refine ⟨j + 1, rfl, ⟨oM, oM, k6, fun k h1 h2 h3 => ?_⟩, oM⟩
   by_cases hk : k = j
   ·subst hk; exact absurd h3 hq
   ·exact hno k h1 oM h3
  have hq : Ja3 j = tk.text := hq
  have hop : opOf tk.text = j := by rw [← hq]; exact op_own j oM hj1 (by rw [hq]; exact hlet)
  rw [hop, if_pos oM]
  refine zS ?_
  refine r_if rfl (fun h3' => ?_) (fun h3' => ?_)
  ·obtain rfl : j = 3 := oM
   rw [wd_ev]
   refine zL h6.hdr ?_
   refine Zt (b := g.p) (off := 1) (v := I ((i : Int) + 1)) rfl h6.hdr sI ?_
   intro w7 hu7
   obtain ⟨h7, k7⟩ := Jl9 h6 hi hu7
   have y7 := k7.size
   clear hu7
   refine zS ?_
   refine Zc (node0 3 0 []) ?_
   rintro v w8 ⟨k, rfl, hl, hk, k8, hn8⟩
   refine zS ?_
   exact ⟨_, rfl, k, i + 1, 0, f, rfl, hk, fun b hb => by have := hn8 b hb; omega, h7.kp0 k8, oM, by rw [hl]; simp [Ji5], rel_n0 hpre hl, ((k06.mono sI).trans k7).into k8 sI⟩
  have h3' : j ≠ 3 := oM
  cases hbi : Jb6 j with
  | true =>
   rw [hbi] at g7
   refine zL g7 ?_
   refine Zc (binding30_ret ih h6 htk htx hn h3' hbi) ?_
   rintro v w7 ⟨k, i7, c7, f7, rfl, hk, hn7, h7, hi7, hl7, hR7, kk7⟩
   refine zS ?_
   exact ⟨_, rfl, k, i7, c7, f7, rfl, hk, fun b hb => by have := hn7 b hb; omega, h7, hi7, hl7, hR7, (k06.mono sI).trans kk7⟩
  | false =>
   rw [hbi] at g7
   refine zL g7 ?_
   refine Zc (Jp3 (j : Int)) ?_
   rintro v w7 ⟨rfl, rfl⟩
   rw [call_bare j oM oM]
   cases hca : Jm0 j with
   | true =>
    refine zL g7 ?_
    refine Zc (call30_ret ih h6 htk hn h3' hbi hca) ?_
    rintro v w7 ⟨k, i7, c7, f7, rfl, hk, hn7, h7, hi7, hl7, hR7, kk7⟩
    refine zS ?_
    exact ⟨_, rfl, k, i7, c7, f7, rfl, hk, fun b hb => by have := hn7 b hb; omega, h7, hi7, hl7, hR7, (k06.mono sI).trans kk7⟩
   | false =>
    refine zS ?_
    refine ⟨j + 1, rfl, ⟨oM, oM, k6, fun k h1 h2 h3 => ?_⟩, oM⟩
    by_cases hk : k = j
    ·subst hk; exact ⟨h3', hbi, hca⟩
    ·exact hno k h1 oM h3
 ·obtain rfl : j = 27 := oM
  refine zS ?_
  refine Zc (Jj9 tk.text oM) ?_
  rintro v w4 ⟨rfl, k4⟩
  have h4 := h3.kp0 k4
  have k04 := k03.trans k4
  have y4 := k4.size
  cases hq : Jc5 tk.text with
  | true =>
   have hop : opOf tk.text = 0 := by
    unfold Jc5 at hq
    simp only [Bool.and_eq_true, decide_eq_true_eq] at hq
    exact hq.1.1.1.2
   rw [if_neg (by rw [hop]; simp), if_pos rfl]
   refine zL h4.hdr ?_
   refine Zt (b := g.p) (off := 1) (v := I ((i : Int) + 1)) rfl h4.hdr sI ?_
   intro w5 hu5
   obtain ⟨h5, k5⟩ := Jl9 h4 hi hu5
   have y5 := k5.size
   clear hu5
   refine zS ?_
   refine Zc (node0 2 0 tk.text) ?_
   rintro v w6 ⟨k, rfl, hl, hk, k6, hn6⟩
   refine zS ?_
   exact ⟨_, rfl, k, i + 1, 0, f, rfl, hk, fun b hb => by have := hn6 b hb; omega, h5.kp0 k6, oM, by rw [hl]; simp [Ji5], rel_n0 hpre hl, ((k04.mono sI).trans k5).into k6 sI⟩
  | false =>
   have hX : (if opOf tk.text ≠ 0 then wd (m + 1) (opOf tk.text) (g.st i) else if false = true then (adv (g.st i) >>= fun s' => .ok (.n0 2 0 tk.text, s')) else .error (301, (g.st i).pos) : PR) = .error (Ju1 (.ok (g.st i))) := by
    have he : Ju1 (.ok (g.st i)) = ((301 : Int), ((g.st i).pos : Int)) := by rw [Jh8 htk]; rfl
    rw [he]
    by_cases ho : opOf tk.text = 0
    ·rw [if_neg (by rw [ho]; simp), if_neg sI]
    ·obtain ⟨o1, o2⟩ := op_word ho
     have o3 : 3 ≤ opOf tk.text := by
      refine Classical.byContradiction fun q => ?_
      rw [opWord_no oM] at o1
      rw [← o1] at hlet
      cases hlet
     obtain ⟨q1, q2, q3⟩ := hno _ o3 oM o1
     rw [if_pos ho, wd_off q1 q2 q3]
   rw [hX]
   refine zS ?_
   refine Zc (Jk6 h4 (r := .ok (g.st i)) ⟨rfl, rfl, by rw [Jh8 htk]; rfl⟩) ?_
   rintro v w5 ⟨rfl, c5, f5, h5, hp5, k5⟩
   refine zS ?_
   exact ⟨_, rfl, ⟨none, 0, []⟩, i, c5, f5, rfl, ⟨rfl, lR, dE⟩, by simp [Ja1], h5, lR, sI, hp5, (k04.mono sI).trans k5⟩
theorem kind_letter : ∀ k ∈ Ja8, Jb0 (k.getD 0 0) = true := dE
theorem op_letter : ∀ k : Nat, k < 27 → opOf (Ja3 k) ≠ 0 → Jb0 ((Ja3 k).getD 0 0) = true := dE
theorem no_word {s : List UInt8} (h : Jb0 (s.getD 0 0) = false) : Jr4 s = none ∧ opOf s = 0 ∧ Jc5 s = false := by
 refine ⟨Qg2 fun j k hj q => ?_, ?_, ?_⟩
 ·rw [q, kind_letter k (List.mem_of_getElem? hj)] at h; cases h
 ·refine Classical.byContradiction fun q => ?_
  obtain ⟨o1, o2⟩ := op_word q
  have := op_letter _ o2 (by rw [o1]; exact q)
  rw [o1, h] at this; cases this
 ·cases s with
  | nil => rfl
  | cons c r => exact Qc8 sI h
theorem factor30_ok {n : Nat} (ih5 : Rd30 n 5 202) (ih0 : ∀ m, m ≤ n → Rd30 m 0 62) : Rd30 (n + 1) 5 202 := by
 intro w g i c fa r h hr hn
 have hle := h.le
 have hln := h.len
 have hp := h.hdr.lt
 refine Ze Tryz.call202 Tryz.func202 ?_
 refine zS ?_
 refine Ja9 ?_
 refine Ja9 ?_
 refine Jd8 (α := Unit) [0, 22] (fun _ => [ptr g.p, .bool (!(decide (c = 0) && decide (i < g.ts.length)))]) (fun _ W' => Kp [] w W') ?_ ?_
 ·refine Jc9 Ja0 kR ?_
  refine zN h.hdr ?_
  refine Ji0 _ _ rfl rfl rfl (fun q => ?_) (fun q => ?_)
  ·have q : decide (c = 0) = false := by rwa [Bool.not_eq_true'] at q
   refine zN h.hdr ?_
   intro w' hs'
   exact ⟨(), by rw [q]; rfl, hs'⟩
  ·have q : decide (c = 0) = true := by rwa [Bool.not_eq_false'] at q
   refine zN h.hdr ?_
   intro w' hs'
   refine ⟨(), ?_, hs'⟩
   rw [q, Bool.true_and, ← decide_not, show decide (¬ i < g.ts.length) = decide ((g.ts.length : Int) ≤ i) from by rw [decide_eq_decide]; omega]; rfl
 rintro ⟨⟩ e w1 k1
 have h1 := h.kp0 k1
 have y1 := k1.size
 refine Je1 rfl (fun hd => ?_) (fun hd => ?_)
 ·have hval : (r >>= rd (n + 1) 5) = .error (Ju1 r) := by
   cases r with
   | error q => rfl
   | ok s =>
    obtain ⟨hc, hs, hb⟩ := hr
    have hin : i = g.ts.length := by
     rw [hc] at hd
     have : ¬ i < g.ts.length := fun q => by rw [decide_eq_true q] at hd; cases hd
     omega
    rw [hin, Jy0] at hs
    unfold RdG.z at hs
    split at hs
    ·subst hs
     show rd (n + 1) 5 (.stop g.en) = _
     rfl
    ·subst hs; cases hb
  rw [hval]
  refine zS ?_
  refine Zc (Jk6 h1 hr) ?_
  rintro v w2 ⟨rfl, c2, f2, h2, hp2, k2⟩
  refine zS ?_
  exact ⟨_, rfl, ⟨none, 0, []⟩, i, c2, f2, rfl, ⟨rfl, lR, dE⟩, by simp [Ja1], h2, lR, sI, hp2, (k1.mono sI).trans k2⟩
 have hd : c = 0 ∧ i < g.ts.length := by
  rw [Bool.not_eq_false', Bool.and_eq_true, decide_eq_true_eq, decide_eq_true_eq] at hd; exact hd
 obtain ⟨rfl, hi⟩ := hd
 obtain ⟨tk, htk⟩ : ∃ tk, g.ts[i]? = some tk := ⟨_, List.getElem?_eq_getElem hi⟩
 obtain rfl : r = .ok (g.st i) := by
  cases r with
  | ok s => rw [hr.2.1]
  | error q => rcases hr with ⟨_, _, q⟩ | ⟨_, q, _⟩ <;> omega
 have hpre := Jk5 (c := 0) (f := fa) htk rfl
 obtain ⟨n, rfl⟩ : ∃ q, n = q + 1 := ⟨n - 1, oM⟩
 have hhd : (g.st i).hd = tk := by rw [Jh8 htk]; rfl
 have his : ∀ wd, (g.st i).is wd = (decide (tk.text = wd) && decide (tk.num < 0)) := fun wd => by rw [Jh8 htk]; rfl
 have hrd := rd_factor (n := n + 1) (s := g.st i)
 rw [hhd] at hrd
 obtain ⟨b, off, he, hcell⟩ := Jy1 h1 htk
 have hd1 := h1.hdr
 rw [he] at hd1
 have hX : (Except.ok (g.st i) >>= rd (n + 1 + 1) 5) = _ := hrd
 rw [hX]
 clear hX
 have h8 : (g.st i).is (Ja3 4) = (decide (tk.text = [45]) && decide (tk.num < 0)) := his _
 rw [h8, his]
 clear hhd his hrd h8
 refine zk ?_
 refine Ja9 ?_
 refine Jd8 (α := Nat) [0, 3] (fun p => [ptr g.p, ptr p]) (fun p W => Blk W p (tkC tk) 215 ∧ Kp [] w W ∧ w.heap.size ≤ p) ?_ ?_
 ·refine Jo6 (fun w' => Kp [] w1 w') [(0, false), (1, false), (2, false), (3, false), (4, false), (5, false), (6, false), (7, false), (8, false), (9, false), (10, true), (11, true)] Ja0 kR kR kR ((Sm.drew w1).kp []) ?_
  have sd := (Sm.drew w1).kp []
  generalize ({ w1 with drawn := w1.drawn + 1 } : World) = wd at sd ⊢
  (repeat first | refine xo rfl rfl (by first|exact trivial|(simp only[AllP];omega)|(simp(discharger:=omega)only[AllP,cA,cB];omega)|(simp only[AllP,cC,cD,cE,cF,cG];omega)) ?_ | refine xn ?_ | refine Qn2 rfl _ _ (some true) rfl rfl rfl ?_ | refine Qn2 rfl _ _ (some false) rfl rfl rfl ?_ | refine Qn2 rfl _ _ none rfl rfl rfl ?_ | refine x_load rfl rfl (fun _ hs => (Kp.blk hs sI hd1).cell rfl) rfl rfl rfl rfl ?_)
  refine Zz (vs := tkC tk) rfl rfl (fun w' h' j v hv => by rw [Ja2]; exact hcell w' h' j v hv) ?_
  refine zX ?_
  refine Jh2 rfl ?_
  refine Za ?_
  intro p w2 hp hu2
  have k2 : Kp [] w1 w2 := sd.trans (hu2.new oM)
  refine Ja6 ⟨.inr k2, ?_⟩
  refine zX ?_
  refine Jh2 rfl ?_
  refine Zs (b := p) (cs := tkC tk) rfl hu2.blk lR rfl (by simp [Value.oneCell', tkC]) ?_
  intro w3 hu3
  have y2 := sd.size
  have k3 : Kp [] w1 w3 := k2.since (hu3.kp [p] (.inl sI)) (by simp; omega)
  refine Ja6 ⟨.inr k3, ?_⟩
  refine zX ?_
  exact ⟨p, rfl, hu3.blk, k1.trans k3, oM⟩
 rintro p e2 w2 ⟨hB, k2, hp2⟩
 clear hd1 hcell
 have h2 := h.kp0 k2
 have y2 := k2.size
 have hB : Blk w2 p [I (tkI tk), S tk.text, I (if 0 ≤ tk.num then tk.num else 0), I tk.at_] 215 := hB
 have far : ∀ {c : Nat}, w.heap.size ≤ c → c ∉ [g.p] := fun hb q => by have := List.mem_singleton.1 q; omega
 refine zL hB ?_
 refine r_if rfl (fun hq => ?_) (fun hq => ?_)
 ·have hq : tkI tk = 2 := hq
  have hnum : 0 ≤ tk.num := by have := tkI_two tk; rw [decide_eq_true hq] at this; exact of_decide_eq_true this.symm
  rw [if_pos hnum]
  refine zL h2.hdr ?_
  refine Zt (b := g.p) (off := 1) (v := I ((i : Int) + 1)) rfl h2.hdr sI ?_
  intro w3 hu3
  obtain ⟨h3, k3⟩ := Jl9 h2 hi hu3
  have y3 := k3.size
  clear hu3
  have hB3 := k3.blk (far hp2) hB
  rw [if_pos hnum] at hB3
  refine zL hB3 ?_
  refine Zc (node0 1 tk.num []) ?_
  rintro v w4 ⟨k, rfl, hl, hk, k4, hn4⟩
  refine zS ?_
  exact ⟨_, rfl, k, i + 1, 0, fa, rfl, hk, fun b hb => by have := hn4 b hb; omega, h3.kp0 k4, oM, by rw [hl]; simp [Ji5], rel_n0 hpre hl, ((k2.mono sI).trans k3).into k4 sI⟩
 have hq : ¬ tkI tk = 2 := hq
 have hnum : ¬ 0 ≤ tk.num := by have := tkI_two tk; rw [decide_eq_false hq] at this; exact of_decide_eq_false this.symm
 rw [if_neg hnum, decide_eq_true (show tk.num < 0 by omega), Bool.and_true, Bool.and_true]
 refine zL hB ?_
 refine r_if rfl (fun hq1 => ?_) (fun hq1 => ?_)
 ·have hq1 : tkI tk = 1 := hq1
  have hlet : Jb0 (tk.text.getD 0 0) = true := by
   unfold tkI at hq1
   rw [if_neg hnum] at hq1
   split at hq1
   ·assumption
   ·omega
  refine zS ?_
  refine Zc (worded30_ret (ih0 n oM) h2 htk hq1 h.tx oM) ?_
  rintro v w3 ⟨k, i3, c3, f3, rfl, hk, hn3, h3, hi3, hl3, hR3, kk3⟩
  refine zS ?_
  refine ⟨_, rfl, k, i3, c3, f3, rfl, hk, fun b hb => by have := hn3 b hb; omega, h3, hi3, hl3, ?_, (k2.mono sI).trans kk3⟩
  rw [if_neg (fun q => by rw [of_decide_eq_true q] at hlet; cases hlet), if_neg (fun q => by rw [of_decide_eq_true q] at hlet; cases hlet)]
  exact hR3
 have hq1 : ¬ tkI tk = 1 := hq1
 have hlet : Jb0 (tk.text.getD 0 0) = false := by
  cases hl : Jb0 (tk.text.getD 0 0) with
  | false => rfl
  | true => exact absurd (by unfold tkI; rw [if_neg hnum, if_pos hl]) hq1
 obtain ⟨z1, z2, z3⟩ := no_word hlet
 refine zL hB ?_
 refine r_if rfl (fun h45 => ?_) (fun h45 => ?_)
 ·have h45 : tk.text = [45] := h45
  rw [if_pos (decide_eq_true h45)]
  refine zL h2.hdr ?_
  refine Zt (b := g.p) (off := 1) (v := I ((i : Int) + 1)) rfl h2.hdr sI ?_
  intro w3 hu3
  obtain ⟨h3, k3⟩ := Jl9 h2 hi hu3
  have y3 := k3.size
  clear hu3
  refine zS ?_
  refine Zc (ih5 h3 hpre oM) ?_
  rintro v w4 ⟨k4, i4, c4, f4, rfl, hk4, hn4, h4, hi4, hl4, hR4, kk4⟩
  have y4 := kk4.size
  have hle4 := h4.le
  refine Zc (Jh6 4 [] hk4 oM) ?_
  rintro v w5 ⟨k5, rfl, hl5, hk5, kk5, hn5⟩
  have hlen5 : k5.l.length = 1 + k4.l.length := by rw [hl5]; simp [Ji5]; omega
  refine zS ?_
  refine ⟨_, rfl, k5, i4, c4, f4, rfl, hk5, fun b hb => by have := hn5 b hb; omega, h4.kp0 kk5, oM, oM, ?_, (((k2.mono sI).trans k3).trans kk4).into kk5 sI⟩
  have := Qn6 (op := 4) (name := []) hR4 hl5
  cases hq : adv (g.st i) with
  | error q => rw [hq] at this; exact this
  | ok s => rw [hq] at this; exact this
 have h45 : ¬ tk.text = [45] := h45
 rw [if_neg (by rw [decide_eq_false h45]; simp)]
 refine zL hB ?_
 refine r_if rfl (fun h40 => ?_) (fun h40 => ?_)
 ·have h40 : tk.text = [40] := h40
  rw [if_pos (decide_eq_true h40)]
  refine zL h2.hdr ?_
  refine Zt (b := g.p) (off := 1) (v := I ((i : Int) + 1)) rfl h2.hdr sI ?_
  intro w3 hu3
  obtain ⟨h3, k3⟩ := Jl9 h2 hi hu3
  have y3 := k3.size
  clear hu3
  refine zS ?_
  refine Zc (ih0 (n + 1) oM h3 hpre oM) ?_
  rintro v w4 ⟨k4, i4, c4, f4, rfl, hk4, hn4, h4, hi4, hl4, hR4, kk4⟩
  have y4 := kk4.size
  have hle4 := h4.le
  refine zS ?_
  refine Zc (Ji7 h4 hR4.pre [41]) ?_
  rintro v w5 ⟨rfl, i5, c5, f5, h5, hi5, hp5, k5⟩
  have hle5 := h5.le
  refine zS ?_
  refine ⟨_, rfl, k4, i5, c5, f5, rfl, hk4.kp k5 (fun b hb => far (by have := hn4 b hb; omega)), fun b hb => by have := hn4 b hb; omega, h5, oM, oM, ?_, (((k2.mono sI).trans k3).trans kk4).trans k5⟩
  have := rel_mark hR4 hp5
  cases hq : adv (g.st i) with
  | error q => rw [hq] at this; exact this
  | ok s => rw [hq] at this; exact this
 have h40 : ¬ tk.text = [40] := h40
 rw [if_neg (by rw [decide_eq_false h40]; simp), z1]
 refine zS ?_
 refine Zc (Jk6 h2 (r := .ok (g.st i)) hr) ?_
 rintro v w3 ⟨rfl, c3, f3, h3, hp3, k3⟩
 refine zS ?_
 refine ⟨_, rfl, ⟨none, 0, []⟩, i, c3, f3, rfl, ⟨rfl, lR, dE⟩, by simp [Ja1], h3, lR, sI, ?_, (k2.mono sI).trans k3⟩
 show Rel g (if opOf tk.text ≠ 0 then _ else _) i c3 f3 []
 rw [if_neg (by rw [z2]; simp), if_neg (by rw [z3]; simp)]
 have he : Ju1 (.ok (g.st i)) = ((301 : Int), ((g.st i).pos : Int)) := by rw [Jh8 htk]; rfl
 rw [he] at hp3
 exact hp3
theorem all30 : ∀ n : Nat, Rd30 n 0 62 ∧ Rd30 n 1 108 ∧ Rd30 n 2 147 ∧ Rd30 n 3 178 ∧ Rd30 n 4 191 ∧ Rd30 n 5 202 := by
 intro n
 induction n using Nat.strongRecOn with
 | ind n ih =>
  cases n with
  | zero => exact ⟨fun _ _ h => oM, fun _ _ h => oM, fun _ _ h => oM, fun _ _ h => oM, fun _ _ h => oM, fun _ _ h => oM⟩
  | succ n =>
   obtain ⟨i0, i1, i2, i3, i4, i5⟩ := ih n oM
   exact ⟨question30_ok fun m hm => (ih m oM).2.1, Qc2 fun m hm => (ih m oM).2.2.1, simple30_ok i2 i3, sum30_ok fun m hm => (ih m oM).2.2.2.2.1, term30_ok fun m hm => (ih m oM).2.2.2.2.2, factor30_ok i5 fun m hm => (ih m oM).1⟩
end
section
def posK (at_ : Nat) (t : QT) (i : Nat) : Nat := at_ + 1 + ((t.subs.take i).map QT.size).sum
theorem posK_kid {t a : QT} {at_ i : Nat} (ha : t.subs[i]? = some a) : posK at_ t i = Jl5 at_ t i ∧ posK at_ t (i + 1) = posK at_ t i + a.size ∧ posK at_ t i + a.size ≤ at_ + t.size := by
 unfold posK Jl5
 cases t with
 | n0 o m s => simp [QT.subs] at ha
 | n1 o m s b =>
  match i, ha with
  | 0, ha => simp [QT.subs] at ha; subst ha; simp [QT.subs, QT.size]; omega
  | i + 1, ha => simp [QT.subs] at ha
 | n2 o m s b c =>
  match i, ha with
  | 0, ha => simp [QT.subs] at ha; subst ha; simp [QT.subs, QT.size]; omega
  | 1, ha => simp [QT.subs] at ha; subst ha; simp [QT.subs, QT.size]; omega
  | i + 2, ha => simp [QT.subs] at ha
theorem posK_end {t : QT} {at_ : Nat} : posK at_ t t.subs.length = at_ + t.size := by
 unfold posK
 cases t <;> simp [QT.subs, QT.size] <;> omega
theorem depth_subs {t : QT} {m : Nat} (h : ∀ a ∈ t.subs, a.depth + 1 ≤ m) : t.depth ≤ m := by
 cases t with
 | n0 => simp [QT.depth]
 | n1 o p s a => have := h a (by simp [QT.subs]); simp only [QT.depth]; omega
 | n2 o p s a b => have := h a (by simp [QT.subs]); have := h b (by simp [QT.subs]); simp only [QT.depth]; omega
theorem Qm3 : ∀ (n : Nat) (t : QT) {w : World} {l : List QN} {ad : Option Addr} {cap at_ above : Nat}, t.size ≤ n → Ja7 w ad (l.flatMap qC) → l.length ≤ 1000000 → SubT l at_ t → above ≤ 65 →
  Ret Tryz.prog 64 [.slice ad l.length cap, I at_, I above] w (fun v w' => v = .bool (decide (64 < above + t.depth)) ∧ Kp [] w w')
 | 0, t, w, l, ad, cap, at_, above, hs, _, _, _, _ => absurd hs (by have := t.size_pos; omega)
 | n + 1, t, w, l, ad, cap, at_, above, hs, hR, hl, hS, hab => by
  have hle := hS.len
  have hsp := t.size_pos
  have sz : ∀ {p : Nat} {a : QT}, SubT l p a → ∃ b off, ad = some ⟨b, off, none⟩ ∧ ∀ W, Kp [] w W → W.cell? ⟨b, off + p * 4 + 1, none⟩ = some (I a.size) := fun {p a} hS => by
   have hx := hS.head
   have hlt := (List.getElem?_eq_some_iff.1 hx).1
   obtain ⟨b, off, he, hbl, hcell⟩ := hR.at_ (by rw [Jf5]; omega)
   refine ⟨b, off, he, fun W hk => ?_⟩
   have := hcell (p * 4 + 1) (I a.size) (Jm9 (f := qC) (m := 4) (j := 1) (fun _ => rfl) hx (by rw [← a.hd_size]; rfl))
   rw [Nat.add_assoc, ← this]
   exact World.cell?_of_block (hk.at_ b hbl sI)
  obtain ⟨b, off, rfl, hcell⟩ := sz hS
  refine Ze Tryz.call64 Tryz.func64 ?_
  refine zS ?_
  refine r_if rfl (fun h => ?_) (fun h => ?_)
  ·rw [decide_eq_true (show 64 < above + t.depth by omega)]
   refine zS ?_
   exact ⟨_, rfl, rfl, Kp.refl _ _⟩
  refine zS ?_
  refine Zo (v := I t.size) rfl (by rw [Ja2]; exact hcell _ (Kp.refl _ _)) ?_
  refine zS ?_
  refine Jb4 (α := Nat) [0, 2, 7, 8] (fun i => [.slice (some ⟨b, off, none⟩) l.length cap, I above, I ((at_ : Int) + t.size), I (posK at_ t i : Nat)]) (fun i W => i ≤ t.subs.length ∧ Kp [] w W ∧ ∀ a ∈ t.subs.take i, above + 1 + a.depth ≤ 64) (fun i => t.subs.length - i) 0 (by rw [show ((posK at_ t 0 : Nat) : Int) = (at_ : Int) + 1 from by simp [posK]]; rfl) ⟨Nat.zero_le _, Kp.refl _ _, sI⟩ ?_
  rintro i e W ⟨hi, kW, hno⟩
  refine zS ?_
  refine r_if rfl (fun hc => ?_) (fun hc => ?_)
  ·obtain ⟨a, ha⟩ : ∃ a, t.subs[i]? = some a := by
    refine ⟨_, List.getElem?_eq_getElem (Nat.lt_of_le_of_ne hi fun q => ?_)⟩
    subst q
    rw [posK_end] at hc
    omega
   have ham := List.mem_of_getElem? ha
   have hsz := QT.subs_size ham
   obtain ⟨p1, p2, p3⟩ := posK_kid (at_ := at_) ha
   have hSa := hS.kid ha
   rw [← p1] at hSa
   have hat := (List.getElem?_eq_some_iff.1 ha).1
   refine zS ?_
   refine Zc (Qm3 n a (l := l) (ad := some ⟨b, off, none⟩) (cap := cap) (above := above + 1) oM (hR.kp kW sI) hl hSa oM) ?_
   rintro v w2 ⟨rfl, k2⟩
   refine zS ?_
   refine r_if rfl (fun hd => ?_) (fun hd => ?_)
   ·have hd : 64 < above + 1 + a.depth := hd
    have := QT.subs_depth ham
    rw [decide_eq_true (show 64 < above + t.depth by omega)]
    refine zS ?_
    exact ⟨_, rfl, rfl, kW.trans k2⟩
   ·have hd : ¬ 64 < above + 1 + a.depth := hd
    obtain ⟨b', off', he, hcell'⟩ := sz hSa
    obtain ⟨rfl, rfl⟩ : b = b' ∧ off = off' := by simpa using he
    refine zS ?_
    refine Zo (v := I a.size) rfl (by rw [Ja2]; exact hcell' _ (kW.trans k2)) ?_
    refine zS ?_
    refine ⟨i + 1, by rw [p2, Int.natCast_add]; rfl, ⟨oM, kW.trans k2, fun y hy => ?_⟩, oM⟩
    rw [List.take_add_one, ha] at hy
    rcases List.mem_append.1 hy with hy | hy
    ·exact hno y hy
    ·rw [show y = a by simpa using hy]; omega
  ·have hi2 : i = t.subs.length := by
    refine Classical.byContradiction fun q => ?_
    obtain ⟨a, ha⟩ : ∃ a, t.subs[i]? = some a := ⟨_, List.getElem?_eq_getElem oM⟩
    obtain ⟨p1, p2, p3⟩ := posK_kid (at_ := at_) ha
    have := a.size_pos
    omega
   rw [hi2, List.take_length] at hno
   have hd : t.depth ≤ 64 - above := depth_subs fun a ha => by have := hno a ha; omega
   rw [decide_eq_false (show ¬ 64 < above + t.depth by omega)]
   refine zS ?_
   exact ⟨_, rfl, rfl, kW⟩
end
end Go.Vc
