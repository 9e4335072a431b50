/- What a slice of numbers that came in reads as. -/
import Derived.Test.YtghdpibdidfpbaaQClNOrder5
import Derived.OpenShut
import Derived.Deep.Slices
import Derived.ChangeArms
import Derived.Test.YtghdpibdidfpbaaChecked
import Derived.Test.YtghdpibdidfpbaaQClNOrder4
import Derived.Test.YtghdpibdidfpbaaProg
import Derived.Test.YtghdpibdidfpbaaQClNOrder1
namespace Go.Vc
open Go
/-- what the frame tells of a slice of integers that came in: nil; or a row of 'cap' cells, the numbers 'zs' (the first 'len' are its elements), each fitting its kind -/
def IsRow (k : IntKind) (w : World) (a : Option Addr) (len cap : Nat) (zs : List Int) : Prop :=
  (a = none ∧ len = 0 ∧ cap = 0 ∧ zs = []) ∨
  ∃ x, a = some x ∧ len ≤ cap ∧ cap ≤ maxLen ∧ zs.length = cap ∧ (∀ i, i < zs.length → w.cell? (x.add i) = some (.int k (zs.getD i 0))) ∧ ∀ n ∈ zs, (Lit.int k n).wf = true
theorem IsRow.read {k : IntKind} {w : World} {a : Option Addr} {len cap : Nat} {zs : List Int} (h : IsRow k w a len cap zs) : ReadS w a (zs.map (Value.int k)) := by
  rcases h with ⟨rfl, _, _, rfl⟩ | ⟨x, rfl, _, _, _, hc, _⟩
  · rfl
  · intro i v hv
    have hi : i < zs.length := by have := (List.getElem?_eq_some_iff.1 hv).1; simpa using this
    rw [hc i hi]
    simp [hi] at hv
    subst hv
    simp [List.getD_eq_getElem?_getD, hi]
theorem IsRow.bytes {w : World} {a : Option Addr} {len cap : Nat} {zs : List Int} (h : IsRow .u8 w a len cap zs) : ∃ bs : List UInt8, zs = bs.map fun c => (c.toNat : Int) := by
  have hw : ∀ n ∈ zs, 0 ≤ n ∧ n ≤ 255 := by
    rcases h with ⟨_, _, _, rfl⟩ | ⟨x, _, _, _, _, _, hw⟩
    · simp
    · exact fun n hn => bounds_u8 (hw n hn)
  refine ⟨zs.map fun n => UInt8.ofNat n.toNat, ?_⟩
  rw [List.map_map]
  conv => lhs; rw [show zs = zs.map id from by simp]
  apply List.map_congr_left
  intro n hn
  have := hw n hn
  simp only [id, Function.comp, UInt8.toNat_ofNat']
  omega
end Go.Vc
/- What came in: slices of structs, read cell by cell. -/
namespace Go.Vc
open Go
variable {H : Type} {enc : TypeId × Value → H} {P : Program} {w : World} {base : Nat} {spare : Nat → Bool} {held : Bool}

/-- one cell that is an integer -/
theorem trod_int {t : TypeId} {k : IntKind} {fuel : Nat} {v : Value} {x : DataW H × List MemPlace} (ht : P.underlying t = some (.int k)) (h : DataW.trod enc P w base spare held fuel t [v] = some x) : ∃ z, v = .int k z ∧ (Lit.int k z).wf = true := by
  cases fuel with
  | zero => simp [DataW.trod] at h
  | succ n =>
    unfold DataW.trod at h
    rw [ht] at h
    cases v <;> simp at h
    obtain ⟨⟨rfl, hw⟩, _⟩ := h
    exact ⟨_, rfl, hw⟩
theorem trod_str {t : TypeId} {fuel : Nat} {v : Value} {x : DataW H × List MemPlace} (ht : P.underlying t = some .string) (h : DataW.trod enc P w base spare held fuel t [v] = some x) : ∃ s : ByteArray, v = .string s ∧ s.size ≤ maxLen ∧ x.1 = .lit (.string s.data.toList) := by
  cases fuel with
  | zero => simp [DataW.trod] at h
  | succ n =>
    unfold DataW.trod at h
    rw [ht] at h
    cases v <;> simp at h
    obtain ⟨h1, h2⟩ := h
    exact ⟨_, rfl, h1, by rw [← h2]⟩
end Go.Vc
/- What the texts of a seat lean on. -/
namespace Go.Vc
open Go Go.Proofs
theorem follows_mixed : Try.prog.follows .mixedOrders = true := by kernel_rfl
end Go.Vc
/- The small functions of names. -/
namespace Go.Vc
open Go Go.Proofs
set_option maxRecDepth 10000
theorem num_ret (n : Int) (w : World) : Ret Try.prog 11 [I n] w (fun v w' => v = I n ∧ w' = w) := by
  refine enter Try.call11 Try.func11 rfl rfl rfl rfl ?_
  (repeat first|refine zA ?_|refine zg ?_|refine zo rfl rfl trivial ?_|refine zn ?_|refine zr ?_)
  exact ⟨_, rfl, rfl, rfl⟩

def isLetter (c : UInt8) : Bool := decide (97 ≤ ibits .or .u8 (c.toNat : Int) 32) && decide (ibits .or .u8 (c.toNat : Int) 32 ≤ 122)
theorem letter_ret (c : UInt8) (w : World) : Ret Try.prog 26 [.int .u8 c.toNat] w (fun v w' => v = .bool (isLetter c) ∧ w' = w) := by
  refine enter Try.call26 Try.func26 rfl rfl rfl rfl ?_
  (repeat first|refine zA ?_|refine zg ?_|refine zo rfl rfl trivial ?_|refine zn ?_)
  refine o_split _ _ rfl rfl rfl (fun h => ?_) (fun h => ?_)
  · (repeat first|refine zo rfl rfl trivial ?_|refine zn ?_|refine zr ?_)
    exact ⟨_, rfl, by simp only [isLetter, h]; rfl, rfl⟩
  · (repeat first|refine zo rfl rfl trivial ?_|refine zn ?_|refine zr ?_)
    exact ⟨_, rfl, by simp only [isLetter, h]; rfl, rfl⟩
theorem counted_ret (s : List UInt8) (w : World) : Ret Try.prog 24 [S s] w (fun v w' => v = S (s.take 256) ∧ w' = w) := by
  refine enter Try.call24 Try.func24 rfl rfl rfl rfl ?_
  (repeat first|refine zA ?_|refine zg ?_|refine zo rfl rfl (by first|exact trivial|(simp only[AllP];omega)) ?_|refine zn ?_|refine zr ?_)
  exact ⟨_, rfl, by congr 3; rw [List.take_eq_take_iff]; omega, rfl⟩

def okc (c : UInt8) : Bool := isLetter c || decide ((c.toNat : Int) = 95) || (decide (48 ≤ (c.toNat : Int)) && decide ((c.toNat : Int) ≤ 57))
def nameB (l : List UInt8) : Bool := decide (l ≠ []) && decide (l.length ≤ 24) && isLetter (l.getD 0 0) && l.all okc
def checkI (l : List UInt8) : Int := if nameB l then 0 else 60
theorem check_ret (l : List UInt8) (hl : l.length ≤ 9223372036854775807) (w : World) : Ret Try.prog 12 [S l] w (fun v w' => v = I (checkI l) ∧ w' = w) := by
  refine enter Try.call12 Try.func12 rfl rfl rfl rfl ?_
  (repeat first|refine zA ?_|refine zB ?_|refine zg ?_|refine zo rfl rfl trivial ?_|refine zn ?_)
  refine o_bool [0] [S l] 17 (!(decide (l ≠ []) && decide (l.length ≤ 24) && isLetter (l.getD 0 0))) (fun w' => w' = w) ?_ ?_
  · refine o_split _ _ rfl rfl rfl (fun h => ?_) (fun h => ?_)
    · (repeat first|refine zo rfl rfl trivial ?_|refine zn ?_|refine zT rfl rfl rfl ?_)
      exact ⟨rfl, ⟨_, rfl, by simp_all⟩, rfl⟩
    · (repeat refine zo rfl rfl trivial ?_)
      refine o_split _ _ rfl rfl rfl (fun h2 => ?_) (fun h2 => ?_)
      · (repeat first|refine zo rfl rfl trivial ?_|refine zn ?_)
        have h2 := of_decide_eq_true h2
        have h3 : ¬ l.length ≤ 24 := by omega
        exact ⟨rfl, ⟨_, rfl, by simp [h3]⟩, rfl⟩
      · have hne : l ≠ [] := by simpa using h
        have hlp := List.length_pos_iff.2 hne
        (repeat refine zo rfl rfl (by first|exact trivial|(simp only[AllP];omega)) ?_)
        refine o_call (letter_ret _ _) rfl rfl rfl ?_
        rintro v w' ⟨rfl, rfl⟩
        (repeat first|refine zo rfl rfl trivial ?_|refine zn ?_)
        have h2 := of_decide_eq_false h2
        have h3 : l.length ≤ 24 := by omega
        exact ⟨rfl, ⟨_, rfl, by simp [hne, h3]⟩, rfl⟩
  rintro e w' rfl
  refine r_cond rfl (fun h => ?_) (fun h => ?_)
  · (repeat first|refine zA ?_|refine zg ?_|refine zo rfl rfl trivial ?_|refine zn ?_|refine zr ?_)
    refine ⟨_, rfl, ?_, rfl⟩
    have : nameB l = false := by simp only [nameB]; revert h; cases (decide (l ≠ []) && decide (l.length ≤ 24) && isLetter (l.getD 0 0)) <;> simp
    simp [checkI, this]
  · (repeat first|refine zA ?_|refine zB ?_|refine zg ?_|refine zo rfl rfl trivial ?_|refine zn ?_|refine zb ?_|refine zk ?_)
    refine r_loop (α := Nat) [0, 19, 20] (fun k => [S l, I l.length, I k]) (fun k w1 => w1 = w' ∧ k ≤ l.length ∧ (l.take k).all okc = true) (fun k => l.length - k) 0 rfl ⟨rfl, by omega, rfl⟩ ?_
    rintro k e w' ⟨rfl, hk, ha⟩
    (repeat first|refine zA ?_|refine zD ?_|refine zg ?_|refine zo rfl rfl trivial ?_|refine zn ?_)
    refine r_if rfl (fun hlt => ?_) (fun hge => ?_)
    · have hlt : k < l.length := by omega
      (repeat first|refine zA ?_|refine zC ?_|refine zg ?_|refine zo rfl rfl (by first|exact trivial|(simp only[AllP];omega)) ?_|refine zn ?_|refine zb ?_|refine zk ?_)
      refine o_bool [0, 19, 20] [S l, I l.length, I k] 40 (!okc (l.getD k 0)) (fun w1 => w1 = w') ?_ ?_
      · refine o_call (letter_ret _ _) rfl rfl rfl ?_
        rintro v w1 ⟨rfl, rfl⟩
        (repeat refine zo rfl rfl trivial ?_)
        refine o_split _ _ rfl rfl rfl (fun h1 => ?_) (fun h1 => ?_)
        · (repeat refine zo rfl rfl trivial ?_)
          refine o_split _ _ rfl rfl rfl (fun h2 => ?_) (fun h2 => ?_)
          · (repeat refine zo rfl rfl trivial ?_)
            refine o_split _ _ rfl rfl rfl (fun h3 => ?_) (fun h3 => ?_)
            · (repeat first|refine zo rfl rfl trivial ?_|refine zn ?_)
              exact ⟨rfl, ⟨_, rfl, by simp at h1 h2 h3; simp [okc, h1, h2, h3]⟩, rfl⟩
            · (repeat first|refine zo rfl rfl trivial ?_|refine zn ?_)
              exact ⟨rfl, ⟨_, rfl, by simp at h1 h2 h3; simp [okc, h1, h2, h3]; rw [Bool.eq_iff_iff]; simp⟩, rfl⟩
          · (repeat first|refine zo rfl rfl trivial ?_|refine zn ?_|refine zV rfl rfl rfl ?_)
            exact ⟨rfl, ⟨_, rfl, by simp at h1 h2; simp [okc, h2]⟩, rfl⟩
        · (repeat first|refine zo rfl rfl trivial ?_|refine zn ?_|refine zU rfl rfl rfl ?_|refine zV rfl rfl rfl ?_)
          exact ⟨rfl, ⟨_, rfl, by simp at h1; simp [okc, h1]⟩, rfl⟩
      · rintro e w1 rfl
        refine r_cond rfl (fun h => ?_) (fun h => ?_)
        · (repeat first|refine zA ?_|refine zg ?_|refine zo rfl rfl trivial ?_|refine zn ?_|refine zr ?_)
          refine ⟨_, rfl, ?_, rfl⟩
          have : nameB l = false := by
            simp only [nameB, Bool.and_eq_false_iff]
            refine .inr ?_
            rw [List.all_eq_false]
            exact ⟨l.getD k 0, by rw [List.getD_eq_getElem?_getD, List.getElem?_eq_getElem hlt]; simp, by simpa using h⟩
          simp [checkI, this]
        · (repeat first|refine zg ?_|refine zo rfl rfl (by first|exact trivial|(simp only[AllP];omega)) ?_|refine zn ?_|refine zk ?_)
          refine ⟨k + 1, rfl, ⟨rfl, hlt, ?_⟩, by omega⟩
          rw [List.take_succ_eq_append_getElem hlt, List.all_append, ha]
          rw [List.getD_eq_getElem?_getD, List.getElem?_eq_getElem hlt] at h
          simpa using h
    · (repeat first|refine zA ?_|refine zg ?_|refine zo rfl rfl trivial ?_|refine zn ?_|refine ze rfl ?_|refine zr ?_)
      refine ⟨_, rfl, ?_, rfl⟩
      have hk : k = l.length := by omega
      subst hk
      rw [List.take_length] at ha
      have : nameB l = true := by simp only [nameB, ha]; revert h; cases (decide (l ≠ []) && decide (l.length ≤ 24) && isLetter (l.getD 0 0)) <;> simp
      simp [checkI, this]
end Go.Vc
/- The plain law of distances: no program in sight. -/
namespace Go.Vc
def levGo (x : UInt8) (n : Nat) (f : List UInt8 → Nat) : List UInt8 → Nat
  | [] => n + 1
  | y :: b => min (min (f b + if x = y then 0 else 1) (f (y :: b) + 1)) (levGo x n f b + 1)
def lev : List UInt8 → List UInt8 → Nat
  | [], b => b.length
  | x :: a, b => levGo x a.length (lev a) b
theorem lev_nil (b : List UInt8) : lev [] b = b.length := rfl
theorem lev_nil' (a : List UInt8) : lev a [] = a.length := by cases a <;> rfl
theorem lev_cons (x y : UInt8) (a b : List UInt8) : lev (x :: a) (y :: b) = min (min (lev a b + if x = y then 0 else 1) (lev a (y :: b) + 1)) (lev (x :: a) b + 1) := rfl
/-- how far the first i of a are from the first k of b -/
def D (a b : List UInt8) (i k : Nat) : Nat := lev (a.take i).reverse (b.take k).reverse
theorem D_0 (a b : List UInt8) (k : Nat) (h : k ≤ b.length) : D a b 0 k = k := by simp [D, lev_nil, h]
theorem D_i0 (a b : List UInt8) (i : Nat) (h : i ≤ a.length) : D a b i 0 = i := by simp [D, lev_nil', h]
theorem D_ss (a b : List UInt8) (i k : Nat) (hi : i < a.length) (hk : k < b.length) :
    D a b (i + 1) (k + 1) = min (min (D a b i k + if a.getD i 0 = b.getD k 0 then 0 else 1) (D a b i (k + 1) + 1)) (D a b (i + 1) k + 1) := by
  have ea : (a.take (i + 1)).reverse = a.getD i 0 :: (a.take i).reverse := by
    rw [List.take_succ_eq_append_getElem hi]; simp [List.getD_eq_getElem?_getD, List.getElem?_eq_getElem hi]
  have eb : (b.take (k + 1)).reverse = b.getD k 0 :: (b.take k).reverse := by
    rw [List.take_succ_eq_append_getElem hk]; simp [List.getD_eq_getElem?_getD, List.getElem?_eq_getElem hk]
  simp only [D, ea, eb, lev_cons]
theorem D_full (a b : List UInt8) : D a b a.length b.length = lev a.reverse b.reverse := by simp [D]
theorem D_le (a b : List UInt8) : ∀ i, i ≤ a.length → ∀ k, k ≤ b.length → D a b i k ≤ i + k
  | 0, _, k, hk => by rw [D_0 a b k hk]; omega
  | i + 1, hi, 0, _ => by rw [D_i0 a b _ hi]; omega
  | i + 1, hi, k + 1, hk => by
    rw [D_ss a b i k hi hk]
    have := D_le a b (i + 1) hi k (by omega)
    omega
/-- the distance of two texts, by their first 256 bytes -/
def dist (a b : List UInt8) : Nat := lev (a.take 256).reverse (b.take 256).reverse
end Go.Vc
/- names.Distance computes dist. -/
namespace Go.Vc
open Go Go.Proofs
set_option maxRecDepth 10000
theorem distance_ret (s t : List UInt8) (w : World) : Ret Try.prog 9 [S s, S t] w (fun v w' => v = I (dist s t) ∧ Kp [] w w') := by
  refine enter Try.call9 Try.func9 rfl rfl rfl rfl ?_
  (repeat first|refine zA ?_|refine zg ?_|refine zo rfl rfl trivial ?_|refine zn ?_)
  refine o_call (counted_ret _ _) rfl rfl rfl ?_
  rintro v w' ⟨rfl, rfl⟩
  (repeat refine zo rfl rfl trivial ?_)
  refine o_call (counted_ret _ _) rfl rfl rfl ?_
  rintro v w0 ⟨rfl, rfl⟩
  have ha : (s.take 256).length ≤ 256 := List.length_take_le _ _
  have hb : (t.take 256).length ≤ 256 := List.length_take_le _ _
  have hdist : dist s t = lev (s.take 256).reverse (t.take 256).reverse := rfl
  generalize s.take 256 = a at *
  generalize t.take 256 = b at *
  (repeat first|refine zA ?_|refine zg ?_|refine zo rfl rfl (by first|exact trivial|(simp only[AllP];omega)) ?_|refine zn ?_)
  refine o_make rfl rfl rfl rfl rfl (by omega) (by omega) (by omega) (by omega) rfl rfl ?_
  intro br w1 hbr hw1
  have kp1 : Kp [] w0 w1 := hw1.kp [] (.inr (by omega))
  have e1 : ((b.length : Int) + 1).toNat = b.length + 1 := by omega
  rw [e1, rowL_rep] at hw1
  rw [e1]
  have hB := hw1.blk
  clear hw1
  (repeat first|refine zo rfl rfl trivial ?_|refine zn ?_)
  refine r_seq ?_
  -- row[k] = k
  refine r_cut (α := Unit) [0, 1, 5] (fun _ => [S a, S b, .slice (some ⟨br, 0, none⟩) (b.length + 1) (b.length + 1)]) (fun _ w' => Kp [] w0 w' ∧ Blk w' br (rowL (b.length + 1) (fun j => I (D a b 0 j))) 3) ?_ ?_
  · (repeat first|refine zA ?_|refine zg ?_|refine zo rfl rfl trivial ?_|refine zn ?_|refine zb ?_)
    refine r_loop (α := Nat) [0, 1, 5, 20, 21] (fun k => [S a, S b, .slice (some ⟨br, 0, none⟩) (b.length + 1) (b.length + 1), I (b.length + 1 : Nat), I k])
      (fun k w' => k ≤ b.length + 1 ∧ Kp [] w0 w' ∧ Blk w' br (rowL (b.length + 1) (fun j => if j < k then I j else I 0)) 3) (fun k => b.length + 1 - k) 0 rfl ⟨by omega, kp1, hB⟩ ?_
    rintro k e w' ⟨hk, kp, hB⟩
    (repeat first|refine zA ?_|refine zD ?_|refine zg ?_|refine zo rfl rfl trivial ?_|refine zn ?_)
    refine r_if rfl (fun hlt => ?_) (fun hge => ?_)
    · (repeat first|refine zA ?_|refine zC ?_|refine zg ?_|refine zo rfl rfl (by first|exact trivial|(simp only[AllP];omega)) ?_|refine zn ?_|refine zb ?_|refine zk ?_)
      refine o_store rfl hB (by rw [rowL_len]; omega) rfl rfl rfl rfl rfl rfl ?_
      intro w2 hu
      have kp2 := kp.since (hu.kp [br] (.inl (by simp))) (by simp; omega)
      have hB2 := hu.blk
      (repeat first|refine zg ?_|refine zo rfl rfl (by first|exact trivial|(simp only[AllP];omega)) ?_|refine zn ?_)
      refine ⟨k + 1, rfl, ⟨by omega, kp2, ?_⟩, by omega⟩
      rw [rowL_set] at hB2
      rw [rowL_congr (g := fun j => if j = 0 + (k : Int).toNat then I k else if j < k then I j else I 0)]
      · exact hB2
      · intro j hj
        by_cases h1 : j = k
        · subst h1; simp
        · have : (j < k + 1) = (j < k) := by simp; omega
          simp [h1, this]
    · (repeat refine ze rfl ?_)
      refine ⟨(), rfl, kp, ?_⟩
      rw [rowL_congr (g := fun j => if j < k then I j else I 0)]
      · exact hB
      · intro j hj
        rw [D_0 a b j (by omega), if_pos (by omega)]
  rintro _ e w2 ⟨kp2, hB2⟩
  clear hB kp1
  (repeat first|refine zA ?_|refine zB ?_|refine zg ?_|refine zo rfl rfl trivial ?_|refine zn ?_|refine zb ?_)
  refine r_loop (α := Nat) [0, 1, 5, 30, 31] (fun i => [S a, S b, .slice (some ⟨br, 0, none⟩) (b.length + 1) (b.length + 1), I a.length, I i])
    (fun i w' => i ≤ a.length ∧ Kp [] w0 w' ∧ Blk w' br (rowL (b.length + 1) (fun j => I (D a b i j))) 3) (fun i => a.length - i) 0 rfl ⟨by omega, kp2, hB2⟩ ?_
  clear kp2 hB2
  rintro i e w2 ⟨hi, kp2, hB2⟩
  (repeat first|refine zA ?_|refine zD ?_|refine zg ?_|refine zo rfl rfl trivial ?_|refine zn ?_)
  refine r_if rfl (fun hlt => ?_) (fun hge => ?_)
  · have hlt : i < a.length := by omega
    have h00 := D_i0 a b i hi
    have h10 := D_i0 a b (i + 1) hlt
    (repeat first|refine zA ?_|refine zC ?_|refine zg ?_|refine zo rfl rfl (by first|exact trivial|(simp only[AllP];omega)) ?_|refine zn ?_|refine zb ?_|refine zk ?_)
    refine o_load rfl hB2 (rowL_get _ (by omega)) rfl rfl rfl rfl ?_
    (repeat first|refine zA ?_|refine zg ?_|refine zo rfl rfl (by first|exact trivial|(simp only[AllP];omega)) ?_|refine zn ?_)
    refine o_store rfl hB2 (by rw [rowL_len]; omega) rfl rfl rfl rfl rfl rfl ?_
    intro w3 hu
    have kp3 := kp2.since (hu.kp [br] (.inl (by simp))) (by simp; omega)
    have hB3 := hu.blk
    rw [rowL_set, rowL_congr (g := fun j => I (if j ≤ 0 then D a b (i + 1) j else D a b i j : Nat))] at hB3
    · clear hu hB2 kp2
      (repeat first|refine zA ?_|refine zg ?_|refine zo rfl rfl trivial ?_|refine zn ?_|refine zb ?_)
      refine r_loop (α := Nat) [0, 1, 5, 7, 8, 30, 31, 42, 43] (fun k => [S a, S b, .slice (some ⟨br, 0, none⟩) (b.length + 1) (b.length + 1), I i, I (D a b i k), I a.length, I i, I b.length, I k])
        (fun k w' => k ≤ b.length ∧ Kp [] w0 w' ∧ Blk w' br (rowL (b.length + 1) (fun j => I (if j ≤ k then D a b (i + 1) j else D a b i j : Nat))) 3) (fun k => b.length - k) 0 rfl ⟨by omega, kp3, hB3⟩ ?_
      clear kp3 hB3
      rintro k e w3 ⟨hk, kp3, hB3⟩
      (repeat first|refine zA ?_|refine zD ?_|refine zg ?_|refine zo rfl rfl trivial ?_|refine zn ?_)
      refine r_if rfl (fun hlt2 => ?_) (fun hge2 => ?_)
      · have hlt2 : k < b.length := by omega
        have hD := D_le a b i hi k hk
        have hD2 := D_le a b i hi (k + 1) hlt2
        have hD3 := D_le a b (i + 1) hlt k hk
        (repeat first|refine zA ?_|refine zC ?_|refine zg ?_|refine zo rfl rfl trivial ?_|refine zn ?_|refine zb ?_|refine zk ?_)
        refine r_seq ?_
        refine r_cut (α := Unit) [0, 1, 5, 7, 8, 9, 10, 30, 31, 42, 43] (fun _ => [S a, S b, .slice (some ⟨br, 0, none⟩) (b.length + 1) (b.length + 1), I i, I (D a b i k), I k, I (D a b i k + if a.getD i 0 = b.getD k 0 then 0 else 1 : Nat), I a.length, I i, I b.length, I k]) (fun _ w' => Sm w3 w') ?_ ?_
        · refine r_seq ?_
          refine r_quietS follows_mixed (by kernel_rfl) ?_
          (repeat first|refine yo rfl rfl (by first|exact trivial|(simp only[AllP];omega)) ?_|refine yn ?_)
          intro w4 hs4
          refine r_ifn rfl (fun h => ?_) (fun h => ?_)
          · (repeat first|refine zg ?_|refine zo rfl rfl (by first|exact trivial|(simp only[AllP];omega)) ?_|refine zn ?_)
            refine ⟨(), ?_, hs4⟩
            have hne : ¬ a.getD i 0 = b.getD k 0 := fun h' => h (by simp only [Int.toNat_natCast, h'])
            rw [if_neg hne]
            rfl
          · (repeat refine zk ?_)
            refine ⟨(), ?_, hs4⟩
            have heq : a.getD i 0 = b.getD k 0 := by
              simp only [Int.toNat_natCast] at h
              exact UInt8.toNat_inj.1 (by omega)
            rw [if_pos heq]
            rfl
        · rintro _ e w4 hs4
          have hB4 := hs4.blk hB3
          have kp4 := kp3.trans (hs4.kp [])
          clear hB3 kp3 hs4
          have hn : D a b i k + (if a.getD i 0 = b.getD k 0 then 0 else 1 : Nat) ≤ i + k + 1 := by split <;> omega
          have hss := D_ss a b i k hlt hlt2
          generalize hne : D a b i k + (if a.getD i 0 = b.getD k 0 then 0 else 1 : Nat) = ne at *
          (repeat first|refine zA ?_|refine zg ?_|refine zo rfl rfl (by first|exact trivial|(simp only[AllP];omega)) ?_)
          refine o_load rfl hB4 (rowL_get _ (by omega)) rfl rfl rfl rfl ?_
          have ek : ((k : Int) + 1).toNat = k + 1 := by omega
          rw [ek, Nat.zero_add, if_neg (by omega)]
          (repeat first|refine zg ?_|refine zo rfl rfl (by first|exact trivial|(simp only[AllP];omega)) ?_|refine zn ?_)
          refine o_load rfl hB4 (rowL_get _ (by omega)) rfl rfl rfl rfl ?_
          rw [Int.toNat_natCast, Nat.zero_add, if_pos (Nat.le_refl _)]
          (repeat refine zo rfl rfl (by first|exact trivial|(simp only[AllP];omega)) ?_)
          refine o_store rfl hB4 (by rw [rowL_len]; omega) rfl rfl rfl rfl rfl rfl ?_
          intro w5 hu
          have kp5 := kp4.since (hu.kp [br] (.inl (by simp))) (by simp; omega)
          have hB5 := hu.blk
          rw [rowL_set, rowL_congr (g := fun j => I (if j ≤ k + 1 then D a b (i + 1) j else D a b i j : Nat))] at hB5
          · (repeat first|refine zg ?_|refine zo rfl rfl (by first|exact trivial|(simp only[AllP];omega)) ?_|refine zn ?_)
            exact ⟨k + 1, rfl, ⟨hlt2, kp5, hB5⟩, by omega⟩
          · intro j hj
            by_cases h1 : j = k + 1
            · subst h1
              rw [if_pos (by omega), if_pos (by omega), hss]
              congr 1
              omega
            · have : (j ≤ k + 1) = (j ≤ k) := by simp; omega
              rw [if_neg (by omega)]
              simp only [this]
      · (repeat first|refine zg ?_|refine zo rfl rfl (by first|exact trivial|(simp only[AllP];omega)) ?_|refine zn ?_|refine ze rfl ?_)
        refine ⟨i + 1, rfl, ⟨hlt, kp3, ?_⟩, by omega⟩
        rw [rowL_congr (g := fun j => I (if j ≤ k then D a b (i + 1) j else D a b i j : Nat))]
        · exact hB3
        · intro j hj
          rw [if_pos (by omega)]
    · intro j hj
      by_cases h1 : j = 0
      · subst h1
        simp [h10]
      · rw [if_neg (by simpa using h1), if_neg (by omega)]
  · (repeat first|refine zA ?_|refine zg ?_|refine zo rfl rfl (by first|exact trivial|(simp only[AllP];omega)) ?_|refine ze rfl ?_)
    refine o_load rfl hB2 (rowL_get _ (by omega)) rfl rfl rfl rfl ?_
    (repeat first|refine zo rfl rfl trivial ?_|refine zn ?_|refine zr ?_)
    refine ⟨_, rfl, ?_, kp2⟩
    have hi : i = a.length := by omega
    subst hi
    rw [hdist, ← D_full]
    simp
end Go.Vc
