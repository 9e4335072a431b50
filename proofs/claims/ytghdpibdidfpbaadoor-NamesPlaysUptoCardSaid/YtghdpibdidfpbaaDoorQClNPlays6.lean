/- What a slice of numbers that came in reads as. -/
import Derived.Test.YtghdpibdidfpbaaDoorQClNPlays5
import Derived.OpenShut
import Derived.Deep.Slices
import Derived.ChangeArms
import Derived.Test.YtghdpibdidfpbaaDoorChecked
import Derived.Test.YtghdpibdidfpbaaDoorQClNPlays4
import Derived.Test.YtghdpibdidfpbaaDoorProg
import Derived.Test.YtghdpibdidfpbaaDoorQClNPlays1
namespace Go.Vc
open Go
/-- what the frame tells of a slice of integers that came in: nil; or a row of 'cap' cells, the numbers 'zs' (the first 'len' are its elements), each fitting its kind -/
def IsRow (k : IntKind) (w : World) (a : Option Addr) (len cap : Nat) (zs : List Int) : Prop :=
  (a = none ∧ len = 0 ∧ cap = 0 ∧ zs = []) ∨
  ∃ x, a = some x ∧ len ≤ cap ∧ cap ≤ maxLen ∧ zs.length = cap ∧ (∀ i, i < zs.length → w.cell? (x.add i) = some (.int k (zs.getD i 0))) ∧ ∀ n ∈ zs, (Lit.int k n).wf = true
theorem IsRow.read {k : IntKind} {w : World} {a : Option Addr} {len cap : Nat} {zs : List Int} (h : IsRow k w a len cap zs) : ReadS w a (zs.map (Value.int k)) := by
  rcases h with ⟨rfl, _, _, rfl⟩ | ⟨x, rfl, _, _, _, hc, _⟩
  · rfl
  · intro i v hv
    have hi : i < zs.length := by have := (List.getElem?_eq_some_iff.1 hv).1; simpa using this
    rw [hc i hi]
    simp [hi] at hv
    subst hv
    simp [List.getD_eq_getElem?_getD, hi]
theorem IsRow.bytes {w : World} {a : Option Addr} {len cap : Nat} {zs : List Int} (h : IsRow .u8 w a len cap zs) : ∃ bs : List UInt8, zs = bs.map fun c => (c.toNat : Int) := by
  have hw : ∀ n ∈ zs, 0 ≤ n ∧ n ≤ 255 := by
    rcases h with ⟨_, _, _, rfl⟩ | ⟨x, _, _, _, _, _, hw⟩
    · simp
    · exact fun n hn => bounds_u8 (hw n hn)
  refine ⟨zs.map fun n => UInt8.ofNat n.toNat, ?_⟩
  rw [List.map_map]
  conv => lhs; rw [show zs = zs.map id from by simp]
  apply List.map_congr_left
  intro n hn
  have := hw n hn
  simp only [id, Function.comp, UInt8.toNat_ofNat']
  omega
end Go.Vc
/- What came in: slices of structs, read cell by cell. -/
namespace Go.Vc
open Go
variable {H : Type} {enc : TypeId × Value → H} {P : Program} {w : World} {base : Nat} {spare : Nat → Bool} {held : Bool}

/-- one cell that is an integer -/
theorem trod_int {t : TypeId} {k : IntKind} {fuel : Nat} {v : Value} {x : DataW H × List MemPlace} (ht : P.underlying t = some (.int k)) (h : DataW.trod enc P w base spare held fuel t [v] = some x) : ∃ z, v = .int k z ∧ (Lit.int k z).wf = true := by
  cases fuel with
  | zero => simp [DataW.trod] at h
  | succ n =>
    unfold DataW.trod at h
    rw [ht] at h
    cases v <;> simp at h
    obtain ⟨⟨rfl, hw⟩, _⟩ := h
    exact ⟨_, rfl, hw⟩
theorem trod_str {t : TypeId} {fuel : Nat} {v : Value} {x : DataW H × List MemPlace} (ht : P.underlying t = some .string) (h : DataW.trod enc P w base spare held fuel t [v] = some x) : ∃ s : ByteArray, v = .string s ∧ s.size ≤ maxLen ∧ x.1 = .lit (.string s.data.toList) := by
  cases fuel with
  | zero => simp [DataW.trod] at h
  | succ n =>
    unfold DataW.trod at h
    rw [ht] at h
    cases v <;> simp at h
    obtain ⟨h1, h2⟩ := h
    exact ⟨_, rfl, h1, by rw [← h2]⟩
/-- a slice of structs of m cells: its elements' cells; each element has its own reading -/
theorem trod_recs {t e : TypeId} {m : Nat} {fuel : Nat} {a : Option Addr} {len cap : Nat} {x : DataW H × List MemPlace} (ht : P.underlying t = some (.slice e)) (hm : P.cellsOf e = m) (h : DataW.trod enc P w base spare held fuel t [.slice a len cap] = some x) :
    ∃ (n : Nat) (Cs : List (List Value)) (D : List (DataW H)), Cs.length = len ∧ D.length = len ∧ ReadS w a Cs.flatten ∧ (∀ (i : Nat) (cs : List Value), Cs[i]? = some cs → cs.length = m ∧ ∃ (d : DataW H) (p : List MemPlace), D[i]? = some d ∧ DataW.trod enc P w base spare held n e cs = some (d, p)) ∧ (x.1 = .nil ∧ D = [] ∨ ∃ sp, x.1 = .slice D sp) ∧ len ≤ cap ∧ cap ≤ maxLen := by
  rcases Go.Deep.open_slice ht h with ⟨hc, rfl⟩ | ⟨a', len', cap', mm, n, D, Pl, hc, _, hl, hcap, hmm, rfl, hx⟩
  · simp at hc
    obtain ⟨rfl, rfl, rfl⟩ := hc
    exact ⟨0, [], [], rfl, rfl, rfl, fun i cs h => by simp at h, .inl ⟨rfl, rfl⟩, Nat.le_refl _, Nat.zero_le _⟩
  · simp at hc
    obtain ⟨rfl, rfl, rfl⟩ := hc
    have hle : len ≤ mm := by rw [hmm]; split <;> omega
    rw [hm] at hx
    have key : ∀ k, k ≤ len → ∃ Cs : List (List Value), Cs.length = k ∧ ReadS w (some a') Cs.flatten ∧ Cs.flatten.length = k * m ∧ ∀ (i : Nat) (cs : List Value), Cs[i]? = some cs → cs.length = m ∧ DataW.trod enc P w base spare held n e cs = some (D i, Pl i) := by
      intro k
      induction k with
      | zero => intro _; exact ⟨[], rfl, (fun i v h => by simp at h), by simp, fun i cs h => by simp at h⟩
      | succ k ih =>
        intro hk
        obtain ⟨Cs, h1, h2, h3, h4⟩ := ih (by omega)
        obtain ⟨cs', g1, g2⟩ := hx k (by omega)
        obtain ⟨_, g3, g4⟩ := World.cells?_some g1
        refine ⟨Cs ++ [cs'], by simp [h1], fun i v hv => ?_, ?_, fun i cs hcs => ?_⟩
        · rw [List.flatten_append] at hv
          by_cases hi : i < k * m
          · rw [List.getElem?_append_left (by omega)] at hv
            exact h2 i v hv
          · rw [List.getElem?_append_right (by omega), h3] at hv
            simp at hv
            have hlt : i - k * m < m := by have := (List.getElem?_eq_some_iff.1 hv).1; omega
            have := g4 _ hlt
            rw [hv] at this
            rw [← this]
            have hi' : k * m ≤ i := by omega
            have ea : (a'.add (k * m)).add (i - k * m) = a'.add i := by
              generalize k * m = z at hi'
              unfold Addr.add
              by_cases h0 : z = 0
              · subst h0; simp
              · by_cases h1 : i - z = 0
                · have : i = z := by omega
                  subst this; simp
                · rw [if_neg h0, if_neg h1, if_neg (by omega)]
                  simp; omega
            rw [ea]
        · rw [List.flatten_append, List.length_append, h3]; simp [g3, Nat.succ_mul]
        · by_cases hi : i < k
          · rw [List.getElem?_append_left (by omega)] at hcs
            exact h4 i cs hcs
          · have hik : i = k := by
              have := (List.getElem?_eq_some_iff.1 hcs).1
              simp [h1] at this; omega
            subst hik
            rw [List.getElem?_append_right (by omega), h1] at hcs
            simp at hcs; subst hcs
            exact ⟨g3, g2⟩
    obtain ⟨Cs, h1, h2, h3, h4⟩ := key len (Nat.le_refl _)
    refine ⟨n, Cs, (List.range len).map D, h1, by simp, h2, fun i cs hcs => ?_, .inr ⟨_, rfl⟩, hl, hcap⟩
    have hi : i < len := by rw [← h1]; exact (List.getElem?_eq_some_iff.1 hcs).1
    obtain ⟨g1, g2⟩ := h4 i cs hcs
    exact ⟨g1, D i, Pl i, by simp [hi], g2⟩
end Go.Vc
/- What the texts of a seat lean on. -/
namespace Go.Vc
open Go Go.Proofs
theorem follows_mixed : Tryd.prog.follows .mixedOrders = true := by kernel_rfl
end Go.Vc
/- The small functions of names. -/
namespace Go.Vc
open Go Go.Proofs
set_option maxRecDepth 10000
theorem num_ret (n : Int) (w : World) : Ret Tryd.prog 6 [I n] w (fun v w' => v = I n ∧ w' = w) := by
  refine enter Tryd.call6 Tryd.func6 rfl rfl rfl rfl ?_
  (repeat first|refine zA ?_|refine zg ?_|refine zo rfl rfl trivial ?_|refine zn ?_|refine zr ?_)
  exact ⟨_, rfl, rfl, rfl⟩

def isLetter (c : UInt8) : Bool := decide (97 ≤ ibits .or .u8 (c.toNat : Int) 32) && decide (ibits .or .u8 (c.toNat : Int) 32 ≤ 122)
theorem letter_ret (c : UInt8) (w : World) : Ret Tryd.prog 21 [.int .u8 c.toNat] w (fun v w' => v = .bool (isLetter c) ∧ w' = w) := by
  refine enter Tryd.call21 Tryd.func21 rfl rfl rfl rfl ?_
  (repeat first|refine zA ?_|refine zg ?_|refine zo rfl rfl trivial ?_|refine zn ?_)
  refine o_split _ _ rfl rfl rfl (fun h => ?_) (fun h => ?_)
  · (repeat first|refine zo rfl rfl trivial ?_|refine zn ?_|refine zr ?_)
    exact ⟨_, rfl, by simp only [isLetter, h]; rfl, rfl⟩
  · (repeat first|refine zo rfl rfl trivial ?_|refine zn ?_|refine zr ?_)
    exact ⟨_, rfl, by simp only [isLetter, h]; rfl, rfl⟩
theorem counted_ret (s : List UInt8) (w : World) : Ret Tryd.prog 39 [S s] w (fun v w' => v = S (s.take 256) ∧ w' = w) := by
  refine enter Tryd.call39 Tryd.func39 rfl rfl rfl rfl ?_
  (repeat first|refine zA ?_|refine zg ?_|refine zo rfl rfl (by first|exact trivial|(simp only[AllP];omega)) ?_|refine zn ?_|refine zr ?_)
  exact ⟨_, rfl, by congr 3; rw [List.take_eq_take_iff]; omega, rfl⟩

def okc (c : UInt8) : Bool := isLetter c || decide ((c.toNat : Int) = 95) || (decide (48 ≤ (c.toNat : Int)) && decide ((c.toNat : Int) ≤ 57))
def nameB (l : List UInt8) : Bool := decide (l ≠ []) && decide (l.length ≤ 24) && isLetter (l.getD 0 0) && l.all okc
def checkI (l : List UInt8) : Int := if nameB l then 0 else 60
theorem check_ret (l : List UInt8) (hl : l.length ≤ 9223372036854775807) (w : World) : Ret Tryd.prog 10 [S l] w (fun v w' => v = I (checkI l) ∧ w' = w) := by
  refine enter Tryd.call10 Tryd.func10 rfl rfl rfl rfl ?_
  (repeat first|refine zA ?_|refine zB ?_|refine zg ?_|refine zo rfl rfl trivial ?_|refine zn ?_)
  refine o_bool [0] [S l] 17 (!(decide (l ≠ []) && decide (l.length ≤ 24) && isLetter (l.getD 0 0))) (fun w' => w' = w) ?_ ?_
  · refine o_split _ _ rfl rfl rfl (fun h => ?_) (fun h => ?_)
    · (repeat first|refine zo rfl rfl trivial ?_|refine zn ?_|refine zT rfl rfl rfl ?_)
      exact ⟨rfl, ⟨_, rfl, by simp_all⟩, rfl⟩
    · (repeat refine zo rfl rfl trivial ?_)
      refine o_split _ _ rfl rfl rfl (fun h2 => ?_) (fun h2 => ?_)
      · (repeat first|refine zo rfl rfl trivial ?_|refine zn ?_)
        have h2 := of_decide_eq_true h2
        have h3 : ¬ l.length ≤ 24 := by omega
        exact ⟨rfl, ⟨_, rfl, by simp [h3]⟩, rfl⟩
      · have hne : l ≠ [] := by simpa using h
        have hlp := List.length_pos_iff.2 hne
        (repeat refine zo rfl rfl (by first|exact trivial|(simp only[AllP];omega)) ?_)
        refine o_call (letter_ret _ _) rfl rfl rfl ?_
        rintro v w' ⟨rfl, rfl⟩
        (repeat first|refine zo rfl rfl trivial ?_|refine zn ?_)
        have h2 := of_decide_eq_false h2
        have h3 : l.length ≤ 24 := by omega
        exact ⟨rfl, ⟨_, rfl, by simp [hne, h3]⟩, rfl⟩
  rintro e w' rfl
  refine r_cond rfl (fun h => ?_) (fun h => ?_)
  · (repeat first|refine zA ?_|refine zg ?_|refine zo rfl rfl trivial ?_|refine zn ?_|refine zr ?_)
    refine ⟨_, rfl, ?_, rfl⟩
    have : nameB l = false := by simp only [nameB]; revert h; cases (decide (l ≠ []) && decide (l.length ≤ 24) && isLetter (l.getD 0 0)) <;> simp
    simp [checkI, this]
  · (repeat first|refine zA ?_|refine zB ?_|refine zg ?_|refine zo rfl rfl trivial ?_|refine zn ?_|refine zb ?_|refine zk ?_)
    refine r_loop (α := Nat) [0, 19, 20] (fun k => [S l, I l.length, I k]) (fun k w1 => w1 = w' ∧ k ≤ l.length ∧ (l.take k).all okc = true) (fun k => l.length - k) 0 rfl ⟨rfl, by omega, rfl⟩ ?_
    rintro k e w' ⟨rfl, hk, ha⟩
    (repeat first|refine zA ?_|refine zD ?_|refine zg ?_|refine zo rfl rfl trivial ?_|refine zn ?_)
    refine r_if rfl (fun hlt => ?_) (fun hge => ?_)
    · have hlt : k < l.length := by omega
      (repeat first|refine zA ?_|refine zC ?_|refine zg ?_|refine zo rfl rfl (by first|exact trivial|(simp only[AllP];omega)) ?_|refine zn ?_|refine zb ?_|refine zk ?_)
      refine o_bool [0, 19, 20] [S l, I l.length, I k] 40 (!okc (l.getD k 0)) (fun w1 => w1 = w') ?_ ?_
      · refine o_call (letter_ret _ _) rfl rfl rfl ?_
        rintro v w1 ⟨rfl, rfl⟩
        (repeat refine zo rfl rfl trivial ?_)
        refine o_split _ _ rfl rfl rfl (fun h1 => ?_) (fun h1 => ?_)
        · (repeat refine zo rfl rfl trivial ?_)
          refine o_split _ _ rfl rfl rfl (fun h2 => ?_) (fun h2 => ?_)
          · (repeat refine zo rfl rfl trivial ?_)
            refine o_split _ _ rfl rfl rfl (fun h3 => ?_) (fun h3 => ?_)
            · (repeat first|refine zo rfl rfl trivial ?_|refine zn ?_)
              exact ⟨rfl, ⟨_, rfl, by simp at h1 h2 h3; simp [okc, h1, h2, h3]⟩, rfl⟩
            · (repeat first|refine zo rfl rfl trivial ?_|refine zn ?_)
              exact ⟨rfl, ⟨_, rfl, by simp at h1 h2 h3; simp [okc, h1, h2, h3]; rw [Bool.eq_iff_iff]; simp⟩, rfl⟩
          · (repeat first|refine zo rfl rfl trivial ?_|refine zn ?_|refine zV rfl rfl rfl ?_)
            exact ⟨rfl, ⟨_, rfl, by simp at h1 h2; simp [okc, h2]⟩, rfl⟩
        · (repeat first|refine zo rfl rfl trivial ?_|refine zn ?_|refine zU rfl rfl rfl ?_|refine zV rfl rfl rfl ?_)
          exact ⟨rfl, ⟨_, rfl, by simp at h1; simp [okc, h1]⟩, rfl⟩
      · rintro e w1 rfl
        refine r_cond rfl (fun h => ?_) (fun h => ?_)
        · (repeat first|refine zA ?_|refine zg ?_|refine zo rfl rfl trivial ?_|refine zn ?_|refine zr ?_)
          refine ⟨_, rfl, ?_, rfl⟩
          have : nameB l = false := by
            simp only [nameB, Bool.and_eq_false_iff]
            refine .inr ?_
            rw [List.all_eq_false]
            exact ⟨l.getD k 0, by rw [List.getD_eq_getElem?_getD, List.getElem?_eq_getElem hlt]; simp, by simpa using h⟩
          simp [checkI, this]
        · (repeat first|refine zg ?_|refine zo rfl rfl (by first|exact trivial|(simp only[AllP];omega)) ?_|refine zn ?_|refine zk ?_)
          refine ⟨k + 1, rfl, ⟨rfl, hlt, ?_⟩, by omega⟩
          rw [List.take_succ_eq_append_getElem hlt, List.all_append, ha]
          rw [List.getD_eq_getElem?_getD, List.getElem?_eq_getElem hlt] at h
          simpa using h
    · (repeat first|refine zA ?_|refine zg ?_|refine zo rfl rfl trivial ?_|refine zn ?_|refine ze rfl ?_|refine zr ?_)
      refine ⟨_, rfl, ?_, rfl⟩
      have hk : k = l.length := by omega
      subst hk
      rw [List.take_length] at ha
      have : nameB l = true := by simp only [nameB, ha]; revert h; cases (decide (l ≠ []) && decide (l.length ≤ 24) && isLetter (l.getD 0 0)) <;> simp
      simp [checkI, this]
end Go.Vc
/- The plain law of distances: no program in sight. -/
namespace Go.Vc
def levGo (x : UInt8) (n : Nat) (f : List UInt8 → Nat) : List UInt8 → Nat
  | [] => n + 1
  | y :: b => min (min (f b + if x = y then 0 else 1) (f (y :: b) + 1)) (levGo x n f b + 1)
def lev : List UInt8 → List UInt8 → Nat
  | [], b => b.length
  | x :: a, b => levGo x a.length (lev a) b
theorem lev_nil (b : List UInt8) : lev [] b = b.length := rfl
theorem lev_nil' (a : List UInt8) : lev a [] = a.length := by cases a <;> rfl
theorem lev_cons (x y : UInt8) (a b : List UInt8) : lev (x :: a) (y :: b) = min (min (lev a b + if x = y then 0 else 1) (lev a (y :: b) + 1)) (lev (x :: a) b + 1) := rfl
/-- how far the first i of a are from the first k of b -/
def D (a b : List UInt8) (i k : Nat) : Nat := lev (a.take i).reverse (b.take k).reverse
theorem D_0 (a b : List UInt8) (k : Nat) (h : k ≤ b.length) : D a b 0 k = k := by simp [D, lev_nil, h]
theorem D_i0 (a b : List UInt8) (i : Nat) (h : i ≤ a.length) : D a b i 0 = i := by simp [D, lev_nil', h]
theorem D_ss (a b : List UInt8) (i k : Nat) (hi : i < a.length) (hk : k < b.length) :
    D a b (i + 1) (k + 1) = min (min (D a b i k + if a.getD i 0 = b.getD k 0 then 0 else 1) (D a b i (k + 1) + 1)) (D a b (i + 1) k + 1) := by
  have ea : (a.take (i + 1)).reverse = a.getD i 0 :: (a.take i).reverse := by
    rw [List.take_succ_eq_append_getElem hi]; simp [List.getD_eq_getElem?_getD, List.getElem?_eq_getElem hi]
  have eb : (b.take (k + 1)).reverse = b.getD k 0 :: (b.take k).reverse := by
    rw [List.take_succ_eq_append_getElem hk]; simp [List.getD_eq_getElem?_getD, List.getElem?_eq_getElem hk]
  simp only [D, ea, eb, lev_cons]
theorem D_full (a b : List UInt8) : D a b a.length b.length = lev a.reverse b.reverse := by simp [D]
theorem D_le (a b : List UInt8) : ∀ i, i ≤ a.length → ∀ k, k ≤ b.length → D a b i k ≤ i + k
  | 0, _, k, hk => by rw [D_0 a b k hk]; omega
  | i + 1, hi, 0, _ => by rw [D_i0 a b _ hi]; omega
  | i + 1, hi, k + 1, hk => by
    rw [D_ss a b i k hi hk]
    have := D_le a b (i + 1) hi k (by omega)
    omega
/-- the distance of two texts, by their first 256 bytes -/
def dist (a b : List UInt8) : Nat := lev (a.take 256).reverse (b.take 256).reverse
end Go.Vc
