/- Query: factor; all levels. -/
import Derived.Test.YtkgngbpkiklckaaGreatDoorQClQAlike16
import Derived.Test.YtkgngbpkiklckaaGreatDoorQClQAlike5
import Derived.OpenShut
import Derived.Deep.Slices
import Derived.ChangeArms
namespace Go.Vc
open Go Go.Proofs
set_option maxRecDepth 10000
variable {w : World} {p : Nat} {txt : List UInt8} {s : TS}
theorem rd_factor {n : Nat} : rd (n + 1) 5 s = if 0 ≤ s.hd.num then (adv s >>= fun s' => .ok (.n0 1 s.hd.num [], s'))
    else if s.is (opWord 4) then (adv s >>= fun s => rd n 5 s >>= fun x => .ok (.n1 4 0 [] x.1, x.2))
    else if s.is [40] then (adv s >>= fun s => rd n 0 s >>= fun x => mustT x.2 [41] >>= fun s => .ok (x.1, s))
    else match kindOf s.hd.text with
      | some k => adv s >>= fun s' => .ok (.n0 1 k [], s')
      | none => if opOf s.hd.text ≠ 0 then wd n (opOf s.hd.text) s else if qName s.hd.text then (adv s >>= fun s' => .ok (.n0 2 0 s.hd.text, s')) else .error (301, s.pos) := by
  cases s with
  | tok t r => rw [rd] <;> first | rfl | (intro h; cases h)
  | stop j => rfl
  | bad j => rfl
theorem kind_some {t : List UInt8} {i : Nat} {k : List UInt8} (hi : kindWords[i]? = some k) (h : t = k) (hj : ∀ (j : Nat) (k : List UInt8), j < i → kindWords[j]? = some k → t ≠ k) : kindOf t = some (i + 1) := by
  unfold kindOf
  rw [Option.map_eq_some_iff]
  refine ⟨i, ?_, rfl⟩
  obtain ⟨hlt, rfl⟩ := List.getElem?_eq_some_iff.1 hi
  rw [List.findIdx?_eq_some_iff_getElem]
  exact ⟨hlt, by simp [h], fun j hj2 => by
    have := hj j _ hj2 (List.getElem?_eq_getElem (by omega))
    simpa using fun e => this e.symm⟩
theorem kind_none {t : List UInt8} (hj : ∀ (j : Nat) (k : List UInt8), kindWords[j]? = some k → t ≠ k) : kindOf t = none := by
  unfold kindOf
  rw [Option.map_eq_none_iff, List.findIdx?_eq_none_iff]
  intro x hx
  obtain ⟨j, hj2⟩ := List.getElem?_of_mem hx
  simpa using fun e => hj j x hj2 e.symm
theorem kind_ne {k : List UInt8} {i : Nat} (h : kindWords[i]? = some k) : k ≠ [] := by
  have hall : ∀ k ∈ kindWords, k ≠ [] := by decide
  exact hall k (List.mem_of_getElem? h)
set_option maxHeartbeats 12800000 in
theorem factor_ok {n : Nat} (ih5 : RdOk n 5 197) (ih0 : RdOk n 0 42) (ihw : ∀ op, 1 ≤ op → op ≤ 26 → WdOk n op) : RdOk (n + 1) 5 197 := by
  intro w p txt s hA hpg h htl hsl hn
  have hpl := pos_lt h.pb
  have hB := h.pb
  have hrd := rd_factor (n := n) (s := s)
  have htx : s.hd.text.length ≤ 4096 := by
    cases s with
    | tok t r => obtain ⟨_, h2, _⟩ := h; show t.text.length ≤ 4096; omega
    | stop j => simp [TS.hd]
    | bad j => simp [TS.hd]
  refine enterP Tryz.call197 Tryz.func197 rfl rfl rfl rfl ?_
  (repeat first|refine zA ?_|refine zg ?_|refine zo rfl rfl trivial ?_|refine zn ?_)
  refine o_loadA (b := p) (off := 2) (vs := [S s.hd.text, I s.hd.num, I s.hd.at_]) rfl (fun j v hv => hB.cell (by
    rcases j with _ | _ | _ | j
    · exact hv
    · exact hv
    · exact hv
    · simp at hv)) rfl rfl rfl rfl rfl rfl ?_
  refine o_alloc rfl rfl rfl rfl ?_
  intro b w2 hb hu2
  have k2 : Kp [] w w2 := hu2.kp [] (.inr (by omega))
  refine o_storeA (b := b) (cs := [S s.hd.text, I s.hd.num, I s.hd.at_]) rfl hu2.blk (Nat.le_refl _) rfl (by simp [Value.oneCell']) rfl rfl rfl rfl ?_
  intro w3 hu3
  have k3 : Kp [] w w3 := k2.since (hu3.kp [b] (.inl (by simp))) (by simp; omega)
  have hb3 : Blk w3 b [S s.hd.text, I s.hd.num, I s.hd.at_] 101 := hu3.blk
  have hP3 := h.kp k3 (by simp)
  have hA3 := hA.kp k3 (by simp)
  have hbp : b ≠ p := by omega
  have s3 := k3.size
  have kp3 := k3.mono (S' := [p]) (by simp)
  (repeat first|refine zA ?_|refine zC ?_|refine zg ?_|refine zo rfl rfl trivial ?_|refine zn ?_|refine zb ?_|refine o_load rfl hb3 rfl rfl rfl rfl rfl ?_)
  refine r_if rfl (fun h0 => ?_) (fun h0 => ?_)
  · -- a number
    rw [if_pos h0] at hrd
    (repeat first|refine zA ?_|refine zg ?_|refine zo rfl rfl trivial ?_)
    refine o_callP (adv_ret hP3 htl) rfl rfl rfl (fun v w' hE => ?_) ?_
    · obtain ⟨c1, i1, g1, g2, g3⟩ := hE
      exact ⟨c1, i1, by rw [hrd, g1]; rfl, g2, kp3.trans g3⟩
    rintro v w4 ⟨rfl, ⟨s1, g1, hP4⟩, k4⟩
    rw [g1] at hrd
    have hb4 := k4.blk (by simpa using hbp) hb3
    have s4 := k4.size
    (repeat first|refine zA ?_|refine zg ?_|refine zo rfl rfl trivial ?_|refine zn ?_|refine o_load rfl hb4 rfl rfl rfl rfl rfl ?_)
    refine o_call (made_ret (ad := none) (cap := 0) 1 s.hd.num [] [] rfl (by simp) (by simp [sumS]) (by simp)) rfl rfl rfl ?_
    rintro v' w5 ⟨p', rfl, hp', hB5, k5⟩
    (repeat first|refine zo rfl rfl trivial ?_|refine zn ?_|refine zr ?_)
    exact ⟨_, rfl, _, s1, hrd, ⟨p', rfl, n0_at (by omega) hB5⟩, hP4.kp k5 (by simp), (kp3.trans k4).trans (k5.mono (by simp))⟩
  rw [if_neg h0] at hrd
  (repeat first|refine zA ?_|refine zg ?_|refine zo rfl rfl trivial ?_)
  refine o_callP (is_ret (word := opWord 4) (by decide) hP3 htl) rfl rfl rfl (fun v w' hE => ?_) ?_
  · obtain ⟨g0, c1, i1, g1, g2, g3⟩ := hE
    exact ⟨c1, i1, by rw [hrd, if_pos g0, g1]; rfl, g2, kp3.trans g3⟩
  rintro v w4 ⟨k4, ⟨g1, rfl, s1, g2, hP4⟩ | ⟨g1, rfl, hP4⟩⟩
  · -- '-'
    rw [if_pos g1, g2] at hrd
    have hrd : rd (n + 1) 5 s = (rd n 5 s1 >>= fun x => .ok (.n1 4 0 [] x.1, x.2)) := hrd
    have hl1 := is_len g1
    have hl2 := (adv_len g2).1
    have k34 := kp3.trans k4
    (repeat first|refine zA ?_|refine zg ?_|refine zo rfl rfl trivial ?_|refine zn ?_|refine zt rfl ?_)
    refine o_callP (ih5 (hA.kp k34 (by simpa using Ne.symm hpg)) hpg hP4 htl (by omega) (by omega)) rfl rfl rfl (fun v w' hE => ?_) ?_
    · obtain ⟨c1, i1, g1, g2, g3⟩ := hE
      exact ⟨c1, i1, by rw [hrd, g1]; rfl, g2, k34.trans g3⟩
    rintro v w5 ⟨t, s2, h3, ⟨q, rfl, hT⟩, hP5, k5⟩
    rw [h3] at hrd
    have hz := (rd_size n).1 _ _ _ _ h3
    have kW := k34.trans k5
    have hsz := kW.size
    refine o_buildSlice [ptr q] rfl (by simp [Value.oneCell']) rfl (by decide) (by decide) rfl rfl rfl rfl rfl ?_
    intro b2 w6 hb2 hu6
    have k6 : Kp [] w5 w6 := hu6.kp [] (.inr (by omega))
    have hr6 : ReadS w6 (some ⟨b2, 0, none⟩) [ptr q] := fun i v hv => by rw [addr_lit, Nat.zero_add]; exact hu6.blk.cell hv
    refine o_call (made_ret 4 0 [] [(q, t)] hr6 (by simp; exact ⟨_, _, hT.kp k6 (by simp)⟩) (by simp [sumS]; omega) (by simp)) rfl rfl rfl ?_
    rintro v' w7 ⟨p', rfl, hp', hB7, k7⟩
    have hs6 := k6.size
    (repeat first|refine zo rfl rfl trivial ?_|refine zn ?_|refine zr ?_)
    exact ⟨_, rfl, _, s2, hrd, ⟨p', rfl, n1_at hT (k6.trans k7) (by omega) (hr6.kp k7 (by simp)) (by omega) hB7⟩, (hP5.kp k6 (by simp)).kp k7 (by simp), (kW.trans (k6.mono (by simp))).trans (k7.mono (by simp))⟩
  rw [if_neg (by rw [g1]; simp)] at hrd
  have k34 := kp3.trans k4
  have hb4 := k4.blk (by simpa using hbp) hb3
  (repeat first|refine zA ?_|refine zg ?_|refine zo rfl rfl trivial ?_|refine zn ?_|refine zf rfl ?_)
  refine o_callP (is_ret (word := [40]) (by decide) hP4 htl) rfl rfl rfl (fun v w' hE => ?_) ?_
  · obtain ⟨g0, c1, i1, g1, g2, g3⟩ := hE
    exact ⟨c1, i1, by rw [hrd, if_pos g0, g1]; rfl, g2, k34.trans g3⟩
  rintro v w5 ⟨k5, ⟨g3, rfl, s1, g4, hP5⟩ | ⟨g3, rfl, hP5⟩⟩
  · -- brackets
    rw [if_pos g3, g4] at hrd
    have hrd : rd (n + 1) 5 s = (rd n 0 s1 >>= fun x => mustT x.2 [41] >>= fun s => .ok (x.1, s)) := hrd
    have hl1 := is_len g3
    have hl2 := (adv_len g4).1
    have k35 := k34.trans k5
    (repeat first|refine zA ?_|refine zg ?_|refine zo rfl rfl trivial ?_|refine zn ?_|refine zt rfl ?_)
    refine o_callP (ih0 (hA.kp k35 (by simpa using Ne.symm hpg)) hpg hP5 htl (by omega) (by omega)) rfl rfl rfl (fun v w' hE => ?_) ?_
    · obtain ⟨c1, i1, g1, g2, g3⟩ := hE
      exact ⟨c1, i1, by rw [hrd, g1]; rfl, g2, k35.trans g3⟩
    rintro v w6 ⟨t, s2, h3, ⟨q, rfl, hT⟩, hP6, k6⟩
    rw [h3] at hrd
    have hrd : rd (n + 1) 5 s = (mustT s2 [41] >>= fun s => .ok (t, s)) := hrd
    have k36 := k35.trans k6
    (repeat first|refine zA ?_|refine zg ?_|refine zo rfl rfl trivial ?_|refine zn ?_)
    refine o_callP (must_ret (word := [41]) (by decide) hP6 htl) rfl rfl rfl (fun v w' hE => ?_) ?_
    · obtain ⟨c1, i1, g1, g2, g3⟩ := hE
      exact ⟨c1, i1, by rw [hrd, g1]; rfl, g2, k36.trans g3⟩
    rintro v w7 ⟨rfl, ⟨s3, g7, hP7⟩, k7⟩
    rw [g7] at hrd
    (repeat first|refine zA ?_|refine zg ?_|refine zo rfl rfl trivial ?_|refine zn ?_|refine zr ?_)
    exact ⟨_, rfl, t, s3, hrd, ⟨q, rfl, hT.kp k7 (by simp)⟩, hP7, k36.trans k7⟩
  rw [if_neg (by rw [g3]; simp)] at hrd
  have k35 := k34.trans k5
  have hb5 := k5.blk (by simpa using hbp) hb4
  have hnum : s.hd.num < 0 := by omega
  have hisw : ∀ {k : List UInt8}, k ≠ [] → s.is k = decide (s.hd.text = k) := fun hk => by rw [is_hd hk, decide_eq_true hnum, Bool.and_true]
  (repeat first|refine zA ?_|refine zB ?_|refine zg ?_|refine zo rfl rfl trivial ?_|refine zn ?_|refine zk ?_|refine zf rfl ?_)
  refine o_call (kinds_ret (hA.kp k35 (by simpa using Ne.symm hpg))) rfl rfl rfl ?_
  rintro v w6 ⟨rfl, hr6, k6⟩
  have s5 := k35.size
  (repeat first|refine zo rfl rfl trivial ?_|refine zn ?_|refine zb ?_)
  have hk0 : Kp [p] w w6 := k35.trans (k6.mono (by simp))
  have hr6' : ReadS w6 (some ⟨w5.heap.size, 0, none⟩) (kindWords.map S) := hr6
  refine r_loop (α := Nat) [0, 3, 36, 37, 38] (fun i => [ptr p, ptr b, .slice (some ⟨w5.heap.size, 0, none⟩) 11 11, I 11, I i]) (fun i W => i ≤ 11 ∧ Kp [p] w6 W ∧ PAt W p txt s ∧ ∀ j k, j < i → kindWords[j]? = some k → s.hd.text ≠ k) (fun i => 11 - i) 0 rfl ⟨by omega, Kp.refl _ _, hP5.kp k6 (by simp), by omega⟩ ?_
  rintro i e W ⟨hi, kk, hPi, hj⟩
  (repeat first|refine zA ?_|refine zD ?_|refine zg ?_|refine zo rfl rfl trivial ?_|refine zn ?_)
  refine r_if rfl (fun hc => ?_) (fun hc => ?_)
  · have hi2 : i < 11 := by omega
    obtain ⟨k, hk⟩ : ∃ k, kindWords[i]? = some k := ⟨_, List.getElem?_eq_getElem (show i < kindWords.length from hi2)⟩
    have hrW := hr6'.kp kk (by simp [blkOf]; omega)
    have kW := hk0.trans kk
    (repeat first|refine zA ?_|refine zC ?_|refine zg ?_|refine zo rfl rfl (by first|exact trivial|(simp only[AllP];omega)) ?_|refine zb ?_|refine zk ?_)
    refine o_loadc (v := S k) rfl (by
      have h := hrW i (S k) (by rw [List.getElem?_map, hk]; rfl)
      rw [addr_lit] at h
      rw [toNat_nat]; exact h) rfl rfl rfl rfl ?_
    (repeat first|refine zA ?_|refine zg ?_|refine zo rfl rfl trivial ?_|refine zn ?_)
    refine o_callP (is_ret (word := k) (kind_ne hk) hPi htl) rfl rfl rfl (fun v w' hE => ?_) ?_
    · obtain ⟨g0, c1, i1, g1, g2, g3⟩ := hE
      rw [hisw (kind_ne hk), decide_eq_true_eq] at g0
      exact ⟨c1, i1, by rw [hrd, kind_some hk g0 hj]; dsimp only; rw [g1]; rfl, g2, kW.trans g3⟩
    rintro v w7 ⟨k7, ⟨g7, rfl, s7, g8, hP7⟩ | ⟨g7, rfl, hP7⟩⟩
    · rw [hisw (kind_ne hk), decide_eq_true_eq] at g7
      rw [kind_some hk g7 hj] at hrd
      dsimp only at hrd
      rw [g8] at hrd
      have kW7 := kW.trans k7
      have s7 := kW7.size
      (repeat first|refine zA ?_|refine zg ?_|refine zo rfl rfl (by first|exact trivial|(simp only[AllP];omega)) ?_|refine zn ?_|refine zt rfl ?_)
      refine o_call (made_ret (ad := none) (cap := 0) 1 (i + 1) [] [] rfl (by simp) (by simp [sumS]) (by simp)) rfl rfl rfl ?_
      rintro v' w8 ⟨p', rfl, hp', hB8, k8⟩
      (repeat first|refine zo rfl rfl trivial ?_|refine zn ?_|refine zr ?_)
      exact ⟨_, rfl, _, _, hrd, ⟨p', rfl, n0_at (by omega) hB8⟩, hP7.kp k8 (by simp), kW7.trans (k8.mono (by simp))⟩
    · rw [hisw (kind_ne hk), decide_eq_false_iff_not] at g7
      (repeat first|refine zg ?_|refine zo rfl rfl (by first|exact trivial|(simp only[AllP];omega)) ?_|refine zn ?_|refine zk ?_|refine zf rfl ?_)
      exact ⟨i + 1, rfl, ⟨by omega, kk.trans k7, hP7, fun j k' h1 h2 => by
        by_cases c : j = i
        · subst c; rw [hk] at h2; cases h2; exact g7
        · exact hj j k' (by omega) h2⟩, by omega⟩
  · have : i = 11 := by omega
    subst this
    rw [kind_none (fun j k h1 => hj j k (List.getElem?_eq_some_iff.1 h1).1 h1)] at hrd
    dsimp only at hrd
    have kW := hk0.trans kk
    have hbW := kk.blk (by simpa using hbp) (k6.blk (by simp) hb5)
    (repeat first|refine zA ?_|refine zB ?_|refine zg ?_|refine zo rfl rfl trivial ?_|refine ze rfl ?_|refine o_load rfl hbW rfl rfl rfl rfl rfl ?_)
    refine o_call (operation_ret s.hd.text) rfl rfl rfl ?_
    rintro v w7 ⟨rfl, k7⟩
    have kW7 := kW.trans (k7.mono (S' := [p]) (by simp))
    have hP7 := hPi.kp k7 (by simp)
    have hb7 := k7.blk (by simp) hbW
    (repeat first|refine zA ?_|refine zg ?_|refine zo rfl rfl trivial ?_|refine zn ?_)
    refine r_ifn rfl (fun hop => ?_) (fun hop => ?_)
    · have hop : opOf s.hd.text ≠ 0 := by omega
      rw [if_pos hop] at hrd
      have h26 : opOf s.hd.text ≤ 26 := by
        unfold opOf
        cases hf : (List.range 27).find? (opT s.hd.text) with
        | none => simp
        | some k => have := List.mem_range.1 (List.mem_of_find?_eq_some hf); simp; omega
      have hs1 : 1 ≤ s.len := by
        cases s with
        | tok t r => simp [TS.len]
        | stop j => exact absurd rfl hop
        | bad j => exact absurd rfl hop
      (repeat first|refine zA ?_|refine zg ?_|refine zo rfl rfl trivial ?_)
      refine o_callP (ihw (opOf s.hd.text) (by omega) h26 (hA.kp kW7 (by simpa using Ne.symm hpg)) hpg hP7 htl hsl hs1 (by omega)) rfl rfl rfl (fun v w' hE => ?_) ?_
      · obtain ⟨c1, i1, g1, g2, g3⟩ := hE
        exact ⟨c1, i1, by rw [hrd, g1], g2, kW7.trans g3⟩
      rintro v w8 ⟨t, s2, h3, ⟨q, rfl, hT⟩, hP8, k8⟩
      rw [h3] at hrd
      (repeat first|refine zo rfl rfl trivial ?_|refine zn ?_|refine zr ?_)
      exact ⟨_, rfl, t, s2, hrd, ⟨q, rfl, hT⟩, hP8, kW7.trans k8⟩
    · have hop : ¬ opOf s.hd.text ≠ 0 := by omega
      rw [if_neg hop] at hrd
      (repeat first|refine zA ?_|refine zB ?_|refine zg ?_|refine zo rfl rfl trivial ?_|refine zk ?_|refine o_load rfl hb7 rfl rfl rfl rfl rfl ?_)
      refine o_call (isName_ret (hA.kp kW7 (by simpa using Ne.symm hpg)) s.hd.text (by omega)) rfl rfl rfl ?_
      rintro v w8 ⟨rfl, k8⟩
      have kW8 := kW7.trans (k8.mono (S' := [p]) (by simp))
      have hP8 := hP7.kp k8 (by simp)
      have hb8 := k8.blk (by simp) hb7
      cases hqn : qName s.hd.text with
      | false =>
        rw [hqn] at hrd
        (repeat first|refine zg ?_|refine zo rfl rfl trivial ?_|refine zn ?_|refine zt rfl ?_)
        exact o_callP (off_ret hP8.pb (fun _ _ => False)) rfl rfl rfl (fun v w' hv => ⟨301, s.pos, hrd, by rw [hv.1]; cases s <;> rfl, hv.2 ▸ kW8⟩) (fun v w' h => h.elim)
      | true =>
        rw [hqn, if_pos rfl] at hrd
        (repeat first|refine zA ?_|refine zg ?_|refine zo rfl rfl trivial ?_|refine zn ?_|refine zk ?_|refine zf rfl ?_)
        refine o_callP (adv_ret hP8 htl) rfl rfl rfl (fun v w' hE => ?_) ?_
        · obtain ⟨c1, i1, g1, g2, g3⟩ := hE
          exact ⟨c1, i1, by rw [hrd, g1]; rfl, g2, kW8.trans g3⟩
        rintro v w9 ⟨rfl, ⟨s9, g9, hP9⟩, k9⟩
        rw [g9] at hrd
        have hb9 := k9.blk (by simpa using hbp) hb8
        have kW9 := kW8.trans k9
        have s10 := kW9.size
        (repeat first|refine zA ?_|refine zg ?_|refine zo rfl rfl trivial ?_|refine zn ?_|refine o_load rfl hb9 rfl rfl rfl rfl rfl ?_)
        refine o_call (made_ret (ad := none) (cap := 0) 2 0 s.hd.text [] rfl (by simp) (by simp [sumS]) (by simp)) rfl rfl rfl ?_
        rintro v' w10 ⟨p', rfl, hp', hB10, k10⟩
        (repeat first|refine zo rfl rfl trivial ?_|refine zn ?_|refine zr ?_)
        exact ⟨_, rfl, _, _, hrd, ⟨p', rfl, n0_at (by omega) hB10⟩, hP9.kp k10 (by simp), kW9.trans (k10.mono (by simp))⟩
/-- all levels -/
theorem all_ok : ∀ n : Nat, RdOk n 0 42 ∧ RdOk n 1 82 ∧ RdOk n 2 123 ∧ RdOk n 3 157 ∧ RdOk n 4 184 ∧ RdOk n 5 197 ∧ ∀ op, 1 ≤ op → op ≤ 26 → WdOk n op := by
  intro n
  induction n using Nat.strongRecOn with
  | ind n ih =>
    cases n with
    | zero => exact ⟨fun _ _ _ _ _ h => by omega, fun _ _ _ _ _ h => by omega, fun _ _ _ _ _ h => by omega, fun _ _ _ _ _ h => by omega, fun _ _ _ _ _ h => by omega, fun _ _ _ _ _ h => by omega, fun _ _ _ _ _ _ _ _ h1 h => by omega⟩
    | succ n =>
      obtain ⟨i0, i1, i2, i3, i4, i5, iw⟩ := ih n (by omega)
      refine ⟨question_ok fun m hm => (ih m (by omega)).2.1, conjunction_ok fun m hm => (ih m (by omega)).2.2.1, simple_ok i2 i3, sum_ok fun m hm => (ih m (by omega)).2.2.2.2.1, term_ok fun m hm => (ih m (by omega)).2.2.2.2.2.1, factor_ok i5 i0 iw, fun op h1 h26 => worded_ok h1 h26 i0⟩
end Go.Vc
/- What a slice of numbers that came in reads as. -/
namespace Go.Vc
open Go
/-- what the frame tells of a slice of integers that came in: nil; or a row of 'cap' cells, the numbers 'zs' (the first 'len' are its elements), each fitting its kind -/
def IsRow (k : IntKind) (w : World) (a : Option Addr) (len cap : Nat) (zs : List Int) : Prop :=
  (a = none ∧ len = 0 ∧ cap = 0 ∧ zs = []) ∨
  ∃ x, a = some x ∧ len ≤ cap ∧ cap ≤ maxLen ∧ zs.length = cap ∧ (∀ i, i < zs.length → w.cell? (x.add i) = some (.int k (zs.getD i 0))) ∧ ∀ n ∈ zs, (Lit.int k n).wf = true
theorem IsRow.read {k : IntKind} {w : World} {a : Option Addr} {len cap : Nat} {zs : List Int} (h : IsRow k w a len cap zs) : ReadS w a (zs.map (Value.int k)) := by
  rcases h with ⟨rfl, _, _, rfl⟩ | ⟨x, rfl, _, _, _, hc, _⟩
  · rfl
  · intro i v hv
    have hi : i < zs.length := by have := (List.getElem?_eq_some_iff.1 hv).1; simpa using this
    rw [hc i hi]
    simp [hi] at hv
    subst hv
    simp [List.getD_eq_getElem?_getD, hi]
theorem IsRow.len_le {k : IntKind} {w : World} {a : Option Addr} {len cap : Nat} {zs : List Int} (h : IsRow k w a len cap zs) : len ≤ zs.length ∧ zs.length = cap ∧ cap ≤ 9223372036854775807 := by
  rcases h with ⟨_, rfl, rfl, rfl⟩ | ⟨x, _, h1, h2, h3, _⟩
  · simp
  · simp only [maxLen] at h2; omega
theorem IsRow.rng64 {w : World} {a : Option Addr} {len cap : Nat} {zs : List Int} (h : IsRow .i64 w a len cap zs) (i : Nat) : -9223372036854775808 ≤ zs.getD i 0 ∧ zs.getD i 0 ≤ 9223372036854775807 := by
  rcases h with ⟨_, _, _, rfl⟩ | ⟨x, _, _, _, _, _, hw⟩
  · simp
  · rw [List.getD_eq_getElem?_getD]; exact range_i64 hw i
theorem IsRow.bytes {w : World} {a : Option Addr} {len cap : Nat} {zs : List Int} (h : IsRow .u8 w a len cap zs) : ∃ bs : List UInt8, zs = bs.map fun c => (c.toNat : Int) := by
  have hw : ∀ n ∈ zs, 0 ≤ n ∧ n ≤ 255 := by
    rcases h with ⟨_, _, _, rfl⟩ | ⟨x, _, _, _, _, _, hw⟩
    · simp
    · exact fun n hn => bounds_u8 (hw n hn)
  refine ⟨zs.map fun n => UInt8.ofNat n.toNat, ?_⟩
  rw [List.map_map]
  conv => lhs; rw [show zs = zs.map id from by simp]
  apply List.map_congr_left
  intro n hn
  have := hw n hn
  simp only [id, Function.comp, UInt8.toNat_ofNat']
  omega
end Go.Vc
/- What came in: slices of structs, read cell by cell. -/
namespace Go.Vc
open Go
variable {H : Type} {enc : TypeId × Value → H} {P : Program} {w : World} {base : Nat} {spare : Nat → Bool} {held : Bool}

/-- one cell that is an integer -/
theorem trod_int {t : TypeId} {k : IntKind} {fuel : Nat} {v : Value} {x : DataW H × List MemPlace} (ht : P.underlying t = some (.int k)) (h : DataW.trod enc P w base spare held fuel t [v] = some x) : ∃ z, v = .int k z ∧ (Lit.int k z).wf = true := by
  cases fuel with
  | zero => simp [DataW.trod] at h
  | succ n =>
    unfold DataW.trod at h
    rw [ht] at h
    cases v <;> simp at h
    obtain ⟨⟨rfl, hw⟩, _⟩ := h
    exact ⟨_, rfl, hw⟩
theorem trod_str {t : TypeId} {fuel : Nat} {v : Value} {x : DataW H × List MemPlace} (ht : P.underlying t = some .string) (h : DataW.trod enc P w base spare held fuel t [v] = some x) : ∃ s : ByteArray, v = .string s ∧ s.size ≤ maxLen ∧ x.1 = .lit (.string s.data.toList) := by
  cases fuel with
  | zero => simp [DataW.trod] at h
  | succ n =>
    unfold DataW.trod at h
    rw [ht] at h
    cases v <;> simp at h
    obtain ⟨h1, h2⟩ := h
    exact ⟨_, rfl, h1, by rw [← h2]⟩
/-- a slice of structs of m cells: its elements' cells; each element has its own reading -/
theorem trod_recs {t e : TypeId} {m : Nat} {fuel : Nat} {a : Option Addr} {len cap : Nat} {x : DataW H × List MemPlace} (ht : P.underlying t = some (.slice e)) (hm : P.cellsOf e = m) (h : DataW.trod enc P w base spare held fuel t [.slice a len cap] = some x) :
    ∃ (n : Nat) (Cs : List (List Value)) (D : List (DataW H)), Cs.length = len ∧ D.length = len ∧ ReadS w a Cs.flatten ∧ (∀ (i : Nat) (cs : List Value), Cs[i]? = some cs → cs.length = m ∧ ∃ (d : DataW H) (p : List MemPlace), D[i]? = some d ∧ DataW.trod enc P w base spare held n e cs = some (d, p)) ∧ (x.1 = .nil ∧ D = [] ∨ ∃ sp, x.1 = .slice D sp) ∧ len ≤ cap ∧ cap ≤ maxLen := by
  rcases Go.Deep.open_slice ht h with ⟨hc, rfl⟩ | ⟨a', len', cap', mm, n, D, Pl, hc, _, hl, hcap, hmm, rfl, hx⟩
  · simp at hc
    obtain ⟨rfl, rfl, rfl⟩ := hc
    exact ⟨0, [], [], rfl, rfl, rfl, fun i cs h => by simp at h, .inl ⟨rfl, rfl⟩, Nat.le_refl _, Nat.zero_le _⟩
  · simp at hc
    obtain ⟨rfl, rfl, rfl⟩ := hc
    have hle : len ≤ mm := by rw [hmm]; split <;> omega
    rw [hm] at hx
    have key : ∀ k, k ≤ len → ∃ Cs : List (List Value), Cs.length = k ∧ ReadS w (some a') Cs.flatten ∧ Cs.flatten.length = k * m ∧ ∀ (i : Nat) (cs : List Value), Cs[i]? = some cs → cs.length = m ∧ DataW.trod enc P w base spare held n e cs = some (D i, Pl i) := by
      intro k
      induction k with
      | zero => intro _; exact ⟨[], rfl, (fun i v h => by simp at h), by simp, fun i cs h => by simp at h⟩
      | succ k ih =>
        intro hk
        obtain ⟨Cs, h1, h2, h3, h4⟩ := ih (by omega)
        obtain ⟨cs', g1, g2⟩ := hx k (by omega)
        obtain ⟨_, g3, g4⟩ := World.cells?_some g1
        refine ⟨Cs ++ [cs'], by simp [h1], fun i v hv => ?_, ?_, fun i cs hcs => ?_⟩
        · rw [List.flatten_append] at hv
          by_cases hi : i < k * m
          · rw [List.getElem?_append_left (by omega)] at hv
            exact h2 i v hv
          · rw [List.getElem?_append_right (by omega), h3] at hv
            simp at hv
            have hlt : i - k * m < m := by have := (List.getElem?_eq_some_iff.1 hv).1; omega
            have := g4 _ hlt
            rw [hv] at this
            rw [← this]
            have hi' : k * m ≤ i := by omega
            have ea : (a'.add (k * m)).add (i - k * m) = a'.add i := by
              generalize k * m = z at hi'
              unfold Addr.add
              by_cases h0 : z = 0
              · subst h0; simp
              · by_cases h1 : i - z = 0
                · have : i = z := by omega
                  subst this; simp
                · rw [if_neg h0, if_neg h1, if_neg (by omega)]
                  simp; omega
            rw [ea]
        · rw [List.flatten_append, List.length_append, h3]; simp [g3, Nat.succ_mul]
        · by_cases hi : i < k
          · rw [List.getElem?_append_left (by omega)] at hcs
            exact h4 i cs hcs
          · have hik : i = k := by
              have := (List.getElem?_eq_some_iff.1 hcs).1
              simp [h1] at this; omega
            subst hik
            rw [List.getElem?_append_right (by omega), h1] at hcs
            simp at hcs; subst hcs
            exact ⟨g3, g2⟩
    obtain ⟨Cs, h1, h2, h3, h4⟩ := key len (Nat.le_refl _)
    refine ⟨n, Cs, (List.range len).map D, h1, by simp, h2, fun i cs hcs => ?_, .inr ⟨_, rfl⟩, hl, hcap⟩
    have hi : i < len := by rw [← h1]; exact (List.getElem?_eq_some_iff.1 hcs).1
    obtain ⟨g1, g2⟩ := h4 i cs hcs
    exact ⟨g1, D i, Pl i, by simp [hi], g2⟩
end Go.Vc
/- append that tells whether the row has stayed where it was. -/
namespace Go.Vc
open Go
variable {P : Program} {n : Nat} {a : Act} {e : Env} {w : World} {K : EPost} {X : List (Nat × EPost)} {R : EPost} {all : List Oper} {G : List Nat} {ro : Ro}

section
variable {dst : Option Tmp} {ty : TypeId} {pos : String} {after : Array Edge} {g : Option (Nat × Bool)} {l : List Oper} {t : TypeId} {x y : Operand}

end
end Go.Vc
