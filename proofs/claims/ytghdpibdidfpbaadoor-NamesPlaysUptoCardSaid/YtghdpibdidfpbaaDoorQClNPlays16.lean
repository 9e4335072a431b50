/- Fresh names, plain: a base and a number; the numbers of six digits give so many names. -/
import Derived.Test.YtghdpibdidfpbaaDoorQClNPlays7
import Derived.Lib.ItoaNum
import Derived.Test.YtghdpibdidfpbaaDoorQClNPlays15
import Derived.Lib.LaidTab
namespace Go.Vc
open Go Go.Proofs Go.Lib
/-- the k-th name that is tried -/
def frn (base : Str) (k : Nat) : Str := if k = 0 then base else base.take (24 - nDigits k) ++ decDigits k
theorem digit_nat {i : Nat} (h : i < 10) : (UInt8.ofNat (48 + i)).toNat = 48 + i := by
  rw [UInt8.toNat_ofNat']; omega
theorem digit_inj {i j : Nat} (hi : i < 10) (hj : j < 10) (h : UInt8.ofNat (48 + i) = UInt8.ofNat (48 + j)) : i = j := by
  have := congrArg UInt8.toNat h
  rw [digit_nat hi, digit_nat hj] at this; omega
theorem decDigits_big {u : Nat} (h : ¬ u < 10) : decDigits u = decDigits (u / 10) ++ [UInt8.ofNat (48 + u % 10)] := by rw [decDigits, dif_neg h]
theorem decDigits_inj : ∀ (u v : Nat), decDigits u = decDigits v → u = v := by
  intro u
  induction u using Nat.strongRecOn with
  | _ u ih =>
    intro v h
    by_cases hu : u < 10 <;> by_cases hv : v < 10
    · rw [decDigits_one hu, decDigits_one hv] at h
      exact digit_inj hu hv (by simpa using h)
    · have h1 := congrArg List.length h
      rw [decDigits_length, decDigits_length, nDigits_small hu, nDigits_big hv] at h1
      have := nDigits_pos (v / 10); omega
    · have h1 := congrArg List.length h
      rw [decDigits_length, decDigits_length, nDigits_small hv, nDigits_big hu] at h1
      have := nDigits_pos (u / 10); omega
    · rw [decDigits_big hu, decDigits_big hv] at h
      obtain ⟨h1, h2⟩ := List.append_inj' h rfl
      have h3 := ih (u / 10) (by omega) (v / 10) h1
      have h4 := digit_inj (Nat.mod_lt _ (by decide)) (Nat.mod_lt _ (by decide)) (List.cons.inj h2).1
      omega
theorem nDigits_six {k : Nat} (h1 : 100000 ≤ k) (h2 : k < 1000000) : nDigits k = 6 := nDigits_unique 5 k h1 h2
theorem nDigits_le {k : Nat} (h : k < 1000000) : nDigits k ≤ 6 := by
  apply Classical.byContradiction
  intro hn
  have hp := nDigits_pos k
  have : ∀ (m u : Nat), u < 10 ^ (m + 1) → nDigits u ≤ m + 1 := by
    intro m
    induction m with
    | zero => intro u hu; rw [nDigits_small (by simpa using hu)]; omega
    | succ m ih =>
      intro u hu
      by_cases h10 : u < 10
      · rw [nDigits_small h10]; omega
      · rw [nDigits_big h10]
        have := ih (u / 10) (by rw [Nat.pow_succ] at hu; omega)
        omega
  have := this 5 k h
  omega
theorem nodup_len {α : Type} [DecidableEq α] : ∀ {xs ys : List α}, xs.Nodup → (∀ x ∈ xs, x ∈ ys) → xs.length ≤ ys.length
  | [], ys, _, _ => Nat.zero_le _
  | x :: xs, ys, hn, hs => by
    have hn' := List.nodup_cons.1 hn
    have hx := hs x (by simp)
    have h1 := nodup_len (ys := ys.erase x) hn'.2 fun y hy => by
      have hne : y ≠ x := fun e => by subst e; exact hn'.1 hy
      exact (List.mem_erase_of_ne hne).2 (hs y (by simp [hy]))
    have h2 := List.length_erase_of_mem hx
    have h3 := List.length_pos_of_mem hx
    simp only [List.length_cons]; omega
/-- of so few names not all stand there -/
theorem frn_free {base : Str} {l : List Str} (hl : l.length ≤ 131072) {k : Nat} (h : ∀ j, j < k → frn base j ∈ l) : k ≤ 231072 := by
  apply Classical.byContradiction
  intro hk
  have hn : ((List.range 131073).map fun i => frn base (100000 + i)).Nodup := by
    refine List.pairwise_map.2 ((List.pairwise_lt_range (n := 131073)).imp_of_mem ?_)
    intro i j hi hj hij e
    have hi := List.mem_range.1 hi
    have hj := List.mem_range.1 hj
    unfold frn at e
    rw [if_neg (by omega), if_neg (by omega), nDigits_six (by omega) (by omega), nDigits_six (by omega) (by omega)] at e
    have := decDigits_inj _ _ (List.append_cancel_left e)
    omega
  have := nodup_len hn (ys := l) (fun x hx => by
    obtain ⟨i, hi, rfl⟩ := List.mem_map.1 hx
    have hi := List.mem_range.1 hi
    exact h _ (by omega))
  simp at this; omega
/-! ### where a name stands -/
theorem nidx_none {k : Str} : ∀ {l : List Str}, nidx l k = none ↔ k ∉ l
  | [] => by simp [nidx]
  | s :: r => by
    have ih := nidx_none (k := k) (l := r)
    unfold nidx
    by_cases h : k = s
    · simp [h]
    · simp [h, ih]
theorem nidx_some {k : Str} : ∀ {l : List Str} {i : Nat}, nidx l k = some i → l[i]? = some k
  | [], i, h => by simp [nidx] at h
  | s :: r, i, h => by
    unfold nidx at h
    by_cases e : k = s
    · simp [e] at h; subst h; simp [e]
    · simp [e] at h
      obtain ⟨j, hj, rfl⟩ := h
      simpa using nidx_some hj
end Go.Vc
/- names: Len, Name, Fresh. -/
namespace Go.Vc
open Go Go.Proofs
set_option maxRecDepth 10000
variable {w : World} {p : Nat} {fp : List Nat} {l : List Str} {m : Nat} {ad : Option Addr} {cap : Nat}
theorem nlen_ret (h : Tab w p fp l m ad cap) : Ret Tryd.prog 13 [ptr p] w (fun v w' => v = I l.length ∧ w' = w) := by
  have hn := h.few
  refine enter Tryd.call13 Tryd.func13 rfl rfl rfl rfl ?_
  (repeat first|refine zA ?_|refine zB ?_|refine zg ?_|refine zo rfl rfl trivial ?_|refine zn ?_)
  refine o_call (there_ret h) rfl rfl rfl ?_
  rintro v w' ⟨rfl, rfl⟩
  (repeat first|refine zA ?_|refine zg ?_|refine zo rfl rfl trivial ?_|refine zn ?_|refine zk ?_|refine zf rfl ?_)
  refine o_load rfl h.hdr rfl rfl rfl rfl rfl ?_
  (repeat first|refine zo rfl rfl trivial ?_|refine zn ?_|refine zr ?_)
  exact ⟨_, rfl, rfl, rfl⟩
/-- what Name answers -/
def nameV (l : List Str) (n : Int) : Value := if 0 ≤ n ∧ n < l.length then .tuple #[S (l.getD n.toNat []), .bool true] else .tuple #[S [], .bool false]
theorem nname_ret (h : Tab w p fp l m ad cap) (n : Int) : Ret Tryd.prog 14 [ptr p, I n] w (fun v w' => v = nameV l n ∧ w' = w) := by
  have hn := h.few
  unfold nameV
  refine enter Tryd.call14 Tryd.func14 rfl rfl rfl rfl ?_
  (repeat first|refine zA ?_|refine zB ?_|refine zg ?_|refine zo rfl rfl trivial ?_|refine zn ?_)
  refine o_call (there_ret h) rfl rfl rfl ?_
  rintro v w' ⟨rfl, rfl⟩
  (repeat first|refine zo rfl rfl trivial ?_|refine zU rfl rfl rfl ?_)
  refine o_split _ _ rfl rfl rfl (fun h1 => ?_) (fun h1 => ?_)
  · have h1 : n < 0 := of_decide_eq_true h1
    (repeat first|refine zA ?_|refine zg ?_|refine zo rfl rfl trivial ?_|refine zn ?_|refine zr ?_|refine zt rfl ?_)
    exact ⟨_, rfl, by rw [if_neg (by omega)], rfl⟩
  · have h1 : ¬ n < 0 := of_decide_eq_false h1
    (repeat refine zo rfl rfl trivial ?_)
    refine o_load rfl h.hdr rfl rfl rfl rfl rfl ?_
    (repeat first|refine zo rfl rfl trivial ?_|refine zn ?_)
    refine r_if rfl (fun hc => ?_) (fun hc => ?_)
    · have hc : (l.length : Int) ≤ n := hc
      (repeat first|refine zA ?_|refine zg ?_|refine zo rfl rfl trivial ?_|refine zn ?_|refine zr ?_)
      exact ⟨_, rfl, by rw [if_neg (by omega)], rfl⟩
    · have hc : ¬ (l.length : Int) ≤ n := hc
      obtain ⟨k, rfl⟩ : ∃ k : Nat, n = k := ⟨n.toNat, by omega⟩
      have hkl : k < l.length := by omega
      (repeat first|refine zA ?_|refine zg ?_|refine zo rfl rfl trivial ?_|refine zk ?_)
      refine o_load rfl h.hdr rfl rfl rfl rfl rfl ?_
      obtain ⟨b, off, rfl, _, hcell⟩ := h.own.read.at_ (by simp; omega)
      (repeat refine zo rfl rfl (by first|exact trivial|(simp only[AllP];omega)) ?_)
      refine o_loadc rfl (hcell k (S (l.getD k [])) (by rw [List.getElem?_map]; simp [hkl])) rfl rfl rfl rfl ?_
      (repeat first|refine zo rfl rfl trivial ?_|refine zn ?_|refine zr ?_)
      exact ⟨_, rfl, by rw [if_pos (by omega)]; rfl, rfl⟩
/-! ### Fresh -/
/-- the table of powers of ten, as its initialiser lays it -/
def PowW (w : World) : Prop := Lib.TabIs Tryd.prog w "internal/strconv.uint64pow10" .u64 Lib.pow10Tab
theorem powG : Tryd.prog.globalNamed "internal/strconv.uint64pow10" = some 0 := by kernel_rfl
theorem PowW.heap {w w' : World} (h : PowW w) (hk : w'.heap[0]? = w.heap[0]?) : PowW w' := by
  unfold PowW Lib.TabIs World.var? at *
  rw [powG] at *
  simp only [Option.bind_some] at *
  rw [hk]; exact h
theorem PowW.lt {w : World} (h : PowW w) : 0 < w.heap.size := by
  unfold PowW Lib.TabIs World.var? at *
  rw [powG] at *
  simp only [Option.bind_some] at *
  apply Classical.byContradiction
  intro hn
  rw [Array.getElem?_eq_none (by omega)] at h
  simp at h
theorem PowW.kp {w w' : World} (h : PowW w) {Q : List Nat} (hk : Kp Q w w') (hQ : 0 ∉ Q) : PowW w' := h.heap (hk.at_ _ h.lt hQ)
/-- strconv.Itoa tells the digits -/
def ItoaF : Prop := ∀ (w : World) (n : Nat), n < 4611686018427387904 → PowW w → Ret Tryd.prog 25 [I n] w (fun v w' => v = S (Lib.decDigits n) ∧ Kp [] w w')
theorem fresh_bad (h : Tab w p fp l m ad cap) (base : Str) (hs : base.length ≤ 9223372036854775807) (hb : nameB base = false) : Ret Tryd.prog 12 [ptr p, S base] w (fun v w' => v = .tuple #[S [], I 60] ∧ w' = w) := by
  refine enter Tryd.call12 Tryd.func12 rfl rfl rfl rfl ?_
  (repeat first|refine zA ?_|refine zB ?_|refine zg ?_|refine zo rfl rfl trivial ?_|refine zn ?_)
  refine o_call (there_ret h) rfl rfl rfl ?_
  rintro v w' ⟨rfl, rfl⟩
  (repeat first|refine zA ?_|refine zB ?_|refine zg ?_|refine zo rfl rfl trivial ?_|refine zn ?_|refine zk ?_|refine zf rfl ?_)
  refine o_call (check_ret base hs _) rfl rfl rfl ?_
  rintro v w0 ⟨rfl, rfl⟩
  have hc : checkI base = 60 := by simp [checkI, hb]
  rw [hc]
  (repeat first|refine zA ?_|refine zg ?_|refine zo rfl rfl trivial ?_|refine zn ?_|refine zr ?_|refine zt rfl ?_)
  exact ⟨_, rfl, rfl, rfl⟩
theorem fresh_ret (hI : ItoaF) (hP : PowW w) (h : Tab w p fp l m ad cap) (base : Str) (hb : nameB base = true) : Ret Tryd.prog 12 [ptr p, S base] w (fun v w' => ∃ k, v = .tuple #[S (frn base k), I 0] ∧ k ≤ 231072 ∧ frn base k ∉ l ∧ (∀ j, j < k → frn base j ∈ l) ∧ Kp [] w w') := by
  have hb24 : base.length ≤ 24 := by
    simp only [nameB, Bool.and_eq_true, decide_eq_true_eq] at hb; exact hb.1.1.2
  have hfew := h.few
  refine enter Tryd.call12 Tryd.func12 rfl rfl rfl rfl ?_
  (repeat first|refine zA ?_|refine zB ?_|refine zg ?_|refine zo rfl rfl trivial ?_|refine zn ?_)
  refine o_call (there_ret h) rfl rfl rfl ?_
  rintro v w' ⟨rfl, rfl⟩
  (repeat first|refine zA ?_|refine zB ?_|refine zg ?_|refine zo rfl rfl trivial ?_|refine zn ?_|refine zk ?_|refine zf rfl ?_)
  refine o_call (check_ret base (by omega) _) rfl rfl rfl ?_
  rintro v w0 ⟨rfl, rfl⟩
  have hc : checkI base = 0 := by simp [checkI, hb]
  rw [hc]
  (repeat first|refine zA ?_|refine zg ?_|refine zo rfl rfl trivial ?_|refine zn ?_|refine zb ?_|refine zk ?_|refine zf rfl ?_)
  refine r_loop (α := Nat) [0, 1, 7, 8] (fun k => [ptr p, S base, S (frn base k), I (k + 1 : Nat)]) (fun k W => (∀ j, j < k → frn base j ∈ l) ∧ Kp [] w0 W) (fun k => 231073 - k) 0 ?_ ⟨fun j hj => by omega, Kp.refl _ _⟩ ?_
  · show [ptr p, S base, S base, I 1] = _
    rw [show frn base 0 = base by unfold frn; rw [if_pos rfl]]; rfl
  rintro k e W ⟨hk, kp⟩
  have hk1 := frn_free hfew hk
  have hT := h.kp kp (by simp)
  (repeat first|refine zA ?_|refine zB ?_|refine zC ?_|refine zg ?_|refine zo rfl rfl trivial ?_|refine zb ?_)
  refine o_load rfl hT.hdr rfl rfl rfl rfl rfl ?_
  (repeat refine zo rfl rfl trivial ?_)
  have hf := findNow_tab (frn base k) l 0 0
  cases hn : nidx l (frn base k) with
  | none =>
    rw [hn] at hf
    refine o_lookup2 none rfl rfl hT.mp hf rfl rfl (.inl rfl) rfl rfl rfl rfl ?_
    (repeat first|refine zA ?_|refine zg ?_|refine zo rfl rfl trivial ?_|refine zn ?_|refine zr ?_|refine zt rfl ?_)
    exact ⟨_, rfl, k, rfl, hk1, nidx_none.1 hn, hk, kp⟩
  | some x =>
    rw [hn] at hf
    have hmem : frn base k ∈ l := by
      have := nidx_some hn
      exact List.mem_of_getElem? this
    have hk2 : ∀ j, j < k + 1 → frn base j ∈ l := fun j hj => by
      by_cases c : j = k
      · subst c; exact hmem
      · exact hk j (by omega)
    have hk3 := frn_free hfew hk2
    have hnd := nDigits_le (k := k + 1) (by omega)
    have hlen : (Lib.decDigits (k + 1)).length = Lib.nDigits (k + 1) := Lib.decDigits_length (k + 1)
    refine o_lookup2 _ rfl rfl hT.mp hf rfl rfl (.inl rfl) rfl rfl rfl rfl ?_
    (repeat first|refine zA ?_|refine zg ?_|refine zo rfl rfl trivial ?_|refine zn ?_|refine zk ?_|refine zf rfl ?_)
    refine o_call (hI W (k + 1) (by omega) (hP.kp kp (by simp))) rfl rfl rfl ?_
    rintro v W2 ⟨rfl, kp2⟩
    (repeat first|refine zg ?_|refine zo rfl rfl (by first|exact trivial|(simp only[AllP];omega)|(simp only[AllP,cC,cD,cE,cF,cG];omega)) ?_|refine zn ?_)
    have e1 : List.take (min (base.length : Int) (24 - ((Lib.decDigits (k + 1)).length : Int))).toNat base ++ Lib.decDigits (k + 1) = frn base (k + 1) := by
      unfold frn
      rw [if_neg (by omega), hlen]
      congr 1
      by_cases c : base.length ≤ 24 - Lib.nDigits (k + 1)
      · rw [List.take_of_length_le (by omega), List.take_of_length_le c]
      · congr 1; omega
    refine ⟨k + 1, ?_, ⟨hk2, kp.trans kp2⟩, by omega⟩
    show [ptr p, S base, S (List.take (min (base.length : Int) (24 - ((Lib.decDigits (k + 1)).length : Int))).toNat base ++ Lib.decDigits (k + 1)), I (((k + 1 : Nat) : Int) + 1)] = [ptr p, S base, S (frn base (k + 1)), I ((k + 1 + 1 : Nat) : Int)]
    rw [e1]; rfl
end Go.Vc
