/- Query: there and back, joined, in plain Lean (no program in sight). -/
import Derived.Test.YtkgngbpkiklckaaGreatDoorQClQBack24
import Derived.Test.YtkgngbpkiklckaaGreatDoorQClQBack14
namespace Go.Vc
open Go
/-- enough fuel is enough -/
theorem rd_more : ∀ n : Nat, (∀ lvl s, lvl ≤ 5 → 10 * s.len + 7 ≤ n + lvl → rd (n + 1) lvl s = rd n lvl s) ∧ (∀ lvl t s, lvl ≤ 4 → 10 * s.len + 1 ≤ n → rw (n + 1) lvl t s = rw n lvl t s) ∧ (∀ op s, 1 ≤ s.len → 10 * s.len ≤ n → wd (n + 1) op s = wd n op s)
  | 0 => ⟨fun _ _ h h2 => by omega, fun _ _ _ _ h => by omega, fun _ _ h h2 => by omega⟩
  | n + 1 => by
    obtain ⟨ih1, ih2, ih3⟩ := rd_more n
    have bindE : ∀ {α β : Type} {x : Except (Int × Int) α} {f g : α → Except (Int × Int) β}, (∀ a, x = .ok a → f a = g a) → (x >>= f) = (x >>= g) := by
      intro α β x f g h
      cases x with
      | error e => rfl
      | ok a => exact h a rfl
    have hrow : ∀ lvl s, (lvl = 0 ∨ lvl = 1 ∨ lvl = 3 ∨ lvl = 4) → 10 * s.len + 7 ≤ n + 1 + lvl → rd (n + 2) lvl s = rd (n + 1) lvl s := by
      intro lvl s hl hn
      have hsub : subLvl lvl = lvl + 1 := by rcases hl with rfl | rfl | rfl | rfl <;> rfl
      have e : ∀ m, rd (m + 1) lvl s = (rd m (subLvl lvl) s >>= fun x => rw m lvl x.1 x.2) := by
        intro m; rcases hl with rfl | rfl | rfl | rfl <;> rfl
      rw [e, e, ih1 _ _ (by omega) (by rw [hsub]; omega)]
      refine bindE (fun x hx => ?_)
      have := (rd_size n).1 _ _ _ _ hx
      have := x.1.size_pos
      exact ih2 _ _ _ (by omega) (by omega)
    refine ⟨fun lvl s hl hn => ?_, fun lvl t s hl hn => ?_, fun op s hs hn => ?_⟩
    · have h6 : lvl = 0 ∨ lvl = 1 ∨ lvl = 2 ∨ lvl = 3 ∨ lvl = 4 ∨ lvl = 5 := by omega
      rcases h6 with rfl | rfl | rfl | rfl | rfl | rfl
      · exact hrow 0 s (by simp) hn
      · exact hrow 1 s (by simp) hn
      · rw [rd2, rd2]
        split
        · rename_i h0
          have h00 := is_len h0
          refine bindE (fun s1 h1 => ?_)
          have := (adv_len h1).1
          rw [ih1 _ _ (by omega) (by omega)]
        · rw [ih1 _ _ (by omega) (by omega)]
          refine bindE (fun x hx => ?_)
          have h1 := (rd_size n).1 _ _ _ _ hx
          split
          · rename_i op hop
            have := cmpOp_len hop
            refine bindE (fun s1 h2 => ?_)
            have := (adv_len h2).1
            rw [ih1 _ _ (by omega) (by omega)]
          · rfl
      · exact hrow 3 s (by simp) hn
      · exact hrow 4 s (by simp) hn
      · cases s with
        | stop j => rfl
        | bad j => rfl
        | tok t r =>
          have hl1 : (TS.tok t r).len = r.len + 1 := rfl
          rw [rd5, rd5]
          split
          · rfl
          · split
            · refine bindE (fun s1 h1 => ?_)
              have := (adv_len h1).1
              rw [ih1 _ _ (by omega) (by omega)]
            · split
              · refine bindE (fun s1 h1 => ?_)
                have := (adv_len h1).1
                rw [ih1 _ _ (by omega) (by omega)]
              · split
                · rfl
                · split
                  · exact ih3 _ _ (by omega) (by omega)
                  · rfl
    · have e : ∀ m, rw (m + 1) lvl t s = (match rowOp lvl s with | none => .ok (t, s) | some op => adv s >>= fun s => rd m (subLvl lvl) s >>= fun x => rw m lvl (.n2 op 0 [] t x.1) x.2) := by
        intro m; rw [rw]; rfl
      rw [e, e]
      split
      · rfl
      · rename_i op hop
        have h00 := rowOp_len hop
        have hsl : subLvl lvl ≤ 5 := by unfold subLvl; split <;> omega
        refine bindE (fun s1 h1 => ?_)
        have := (adv_len h1).1
        rw [ih1 _ _ hsl (by omega)]
        refine bindE (fun x hx => ?_)
        have := (rd_size n).1 _ _ _ _ hx
        have := x.1.size_pos
        exact ih2 _ _ _ hl (by omega)
    · have e : ∀ m, wd (m + 1) op s = (if op = 3 then (adv s >>= fun s => .ok (.n0 3 0 [], s)) else if bindsO op then (adv s >>= fun s => match s with
          | .tok t r => if 0 ≤ t.num ∨ qName t.text = false then .error (301, t.at_) else (adv (.tok t r) >>= fun s => mustT s [58] >>= fun s => rd m 0 s >>= fun x => .ok (.n1 op 0 t.text x.1, x.2))
          | s => .error (301, s.pos))
        else if callO op then (adv s >>= fun s => mustT s [40] >>= fun s => rd m 0 s >>= fun x => if kidsO op = 1 then (mustT x.2 [41] >>= fun s => .ok (.n1 op 0 [] x.1, s)) else (mustT x.2 [44] >>= fun s => rd m 0 s >>= fun y => mustT y.2 [41] >>= fun s => .ok (.n2 op 0 [] x.1 y.1, s)))
        else .error (301, s.pos)) := by
        intro m; rw [wd]; rfl
      rw [e, e]
      split
      · rfl
      · split
        · refine bindE (fun s1 h1 => ?_)
          have := (adv_len h1).1
          cases s1 with
          | stop j => rfl
          | bad j => rfl
          | tok t r =>
            dsimp only
            split
            · rfl
            · refine bindE (fun s2 h2 => bindE (fun s3 h3 => ?_))
              have := (adv_len h2).1
              have := mustT_len h3
              rw [ih1 _ _ (by omega) (by omega)]
        · split
          · refine bindE (fun s1 h1 => bindE (fun s2 h2 => ?_))
            have := (adv_len h1).1
            have := mustT_len h2
            rw [ih1 _ _ (by omega) (by omega)]
            refine bindE (fun x hx => ?_)
            have := (rd_size n).1 _ _ _ _ hx
            split
            · rfl
            · refine bindE (fun s3 h3 => ?_)
              have := mustT_len h3
              rw [ih1 _ _ (by omega) (by omega)]
          · rfl
theorem rd_fuel {n m lvl : Nat} {s : TS} (hl : lvl ≤ 5) (h : 10 * s.len + 7 ≤ n + lvl) (hnm : n ≤ m) : rd m lvl s = rd n lvl s := by
  obtain ⟨k, rfl⟩ : ∃ k, m = n + k := ⟨m - n, by omega⟩
  induction k with
  | zero => rfl
  | succ k ih => rw [← ih (by omega)]; exact (rd_more (n + k)).1 lvl s hl (by omega)
/-- the end of a stream -/
theorem strip_end {s : TS} (h : s.strip = some []) : ∃ j, s = .stop j := by
  cases s with
  | stop j => exact ⟨j, rfl⟩
  | bad j => simp [TS.strip] at h
  | tok t r => simp [TS.strip] at h
/-- a text with a tree's tokens says that tree -/
theorem parse_told {l : List UInt8} {t : QT} (hg : goodT t) (hd : t.depth ≤ 64) (hl : l.length ≤ 4096) (h : tk l = some (tokM t)) : parseM l = .ok t := by
  have hs : (lex l 0).strip = some (tokM t ++ []) := by rw [List.append_nil]; exact h
  obtain ⟨s', ⟨N, h1⟩, h2⟩ := (rd_told t hg).2 _ _ hs (.inl rfl)
  obtain ⟨j, rfl⟩ := strip_end h2
  have hlen := lex_len (txt := l) l.length 0 (by omega) (by omega)
  have hr : rd (20 * l.length + 20) 0 (lex l 0) = .ok (t, .stop j) := by
    rw [← rd_fuel (m := max N (20 * l.length + 20)) (by omega) (by omega) (by omega)]
    exact h1 _ (by omega)
  unfold parseM
  rw [if_neg (by omega)]
  split
  · rename_i i hb; rw [hb] at hs; simp [TS.strip] at hs
  · rw [hr]
    show (if 64 < t.depth then _ else _) = _
    rw [if_neg (by omega)]
/-- no token's number is too great -/
def okNum : TS → Prop
  | .tok t r => t.num ≤ 9223372036854775807 ∧ okNum r
  | _ => True
theorem numAcc_le : ∀ (l : List UInt8) (n u : Nat), (l.all digitB = true) → n ≤ 9223372036854775807 → numAcc n l = some u → u ≤ 9223372036854775807
  | [], n, u, _, h, e => by simp [numAcc] at e; omega
  | c :: l, n, u, ha, h, e => by
    simp only [List.all_cons, Bool.and_eq_true] at ha
    have hc : 48 ≤ c.toNat ∧ c.toNat ≤ 57 := by
      have := ha.1
      unfold digitB at this
      simp only [Bool.and_eq_true, decide_eq_true_eq, UInt8.le_iff_toNat_le] at this
      simpa using this
    rw [numAcc] at e
    split at e
    · exact numAcc_le l _ u ha.2 (by omega) e
    · cases e
theorem all_tw {f : UInt8 → Bool} : ∀ {l : List UInt8}, (l.takeWhile f).all f = true
  | [] => rfl
  | c :: l => by
    rw [List.takeWhile_cons]
    cases hc : f c with
    | false => rfl
    | true => simp only [if_true, List.all_cons, hc, Bool.true_and]; exact all_tw
theorem tok1_num {i : Nat} {l : List UInt8} {t : Tok} (h : tok1 i l = some t) : t.num ≤ 9223372036854775807 := by
  cases l with
  | nil => simp [tok1] at h; subst h; show (-1 : Int) ≤ _; decide
  | cons c r =>
    simp only [tok1] at h
    split at h
    · cases h; show (-1 : Int) ≤ _; decide
    · split at h
      · rename_i hd
        simp only [Option.map_eq_some_iff] at h
        obtain ⟨n, h1, rfl⟩ := h
        have := numAcc_le (c :: r.takeWhile digitB) 0 n (by
          rw [List.all_cons, hd, Bool.true_and]; exact all_tw) (by omega) h1
        show (n : Int) ≤ _; omega
      · split at h
        · cases h
        · cases h; show (-1 : Int) ≤ _; decide
theorem lexF_okNum : ∀ (f i : Nat) (l : List UInt8), okNum (lexF f i l)
  | 0, _, _ => trivial
  | f + 1, i, l => by
    rw [lexF]
    split
    · trivial
    · split
      · trivial
      · rename_i h; exact ⟨tok1_num h, lexF_okNum f _ _⟩
theorem adv_okNum {s s' : TS} (h : adv s = .ok s') (hs : okNum s) : okNum s' := by
  unfold adv at h
  split at h
  · cases h
  · cases h; exact hs.2
  · cases h; exact hs
theorem mustT_okNum {s s' : TS} {w : List UInt8} (h : mustT s w = .ok s') (hs : okNum s) : okNum s' := by
  unfold mustT at h
  split at h
  · exact adv_okNum h hs
  · cases h
theorem good_row {a b : QT} {lvl : Nat} {op : Int} {s : TS} (ha : goodT a) (hb : goodT b) (h : rowOp lvl s = some op) : goodT (.n2 op 0 [] a b) := by
  refine ⟨rfl, ha, hb, rfl, ?_⟩
  unfold rowOp at h
  split at h <;> (repeat' split at h) <;> cases h <;> simp
/-- what is read is a tree that may be -/
theorem rd_good : ∀ n : Nat, (∀ lvl s t s', okNum s → rd n lvl s = .ok (t, s') → goodT t ∧ okNum s') ∧ (∀ lvl u s t s', okNum s → goodT u → rw n lvl u s = .ok (t, s') → goodT t ∧ okNum s') ∧ (∀ op s t s', okNum s → wd n op s = .ok (t, s') → goodT t ∧ okNum s')
  | 0 => ⟨fun _ _ _ _ _ h => by simp [rd] at h, fun _ _ _ _ _ _ _ h => by simp [rw] at h, fun _ _ _ _ _ h => by simp [wd] at h⟩
  | n + 1 => by
    obtain ⟨ih1, ih2, ih3⟩ := rd_good n
    have hrow : ∀ lvl s t s', okNum s → (do let (t, s) ← rd n (subLvl lvl) s; rw n lvl t s) = (.ok (t, s') : PR) → goodT t ∧ okNum s' := by
      intro lvl s t s' hs h
      obtain ⟨⟨t1, s1⟩, h1, h2⟩ := bind_ok h
      obtain ⟨g1, g2⟩ := ih1 _ _ _ _ hs h1
      exact ih2 _ _ _ _ _ g2 g1 h2
    refine ⟨fun lvl s t s' hs h => ?_, fun lvl u s t s' hs hu h => ?_, fun op s t s' hs h => ?_⟩
    · unfold rd at h
      split at h
      · split at h
        · obtain ⟨s1, h1, h⟩ := bind_ok h
          obtain ⟨⟨t1, s2⟩, h2, h⟩ := bind_ok h
          cases h
          obtain ⟨g1, g2⟩ := ih1 _ _ _ _ (adv_okNum h1 hs) h2
          exact ⟨⟨rfl, g1, .inl ⟨by simp, rfl⟩⟩, g2⟩
        · obtain ⟨⟨t1, s1⟩, h1, h⟩ := bind_ok h
          obtain ⟨g1, g2⟩ := ih1 _ _ _ _ hs h1
          dsimp only at h
          split at h
          · rename_i op hop
            obtain ⟨s2, h2, h⟩ := bind_ok h
            obtain ⟨⟨t2, s3⟩, h3, h⟩ := bind_ok h
            cases h
            obtain ⟨g3, g4⟩ := ih1 _ _ _ _ (adv_okNum h2 g2) h3
            have hm := List.mem_of_find?_eq_some hop
            refine ⟨⟨rfl, g1, g3, rfl, ?_⟩, g4⟩
            simp only [List.mem_cons, List.not_mem_nil, or_false] at hm
            rcases hm with rfl | rfl | rfl | rfl | rfl | rfl <;> simp
          · cases h; exact ⟨g1, g2⟩
      · exact hrow _ _ _ _ hs h
      · exact hrow _ _ _ _ hs h
      · exact hrow _ _ _ _ hs h
      · exact hrow _ _ _ _ hs h
      · split at h
        · rename_i t0 r
          split at h
          · rename_i h0
            obtain ⟨s1, h1, h⟩ := bind_ok h
            cases h
            exact ⟨.inl ⟨rfl, h0, hs.1, rfl⟩, adv_okNum h1 hs⟩
          · split at h
            · obtain ⟨s1, h1, h⟩ := bind_ok h
              obtain ⟨⟨t2, s2⟩, h2, h⟩ := bind_ok h
              cases h
              obtain ⟨g1, g2⟩ := ih1 _ _ _ _ (adv_okNum h1 hs) h2
              exact ⟨⟨rfl, g1, .inl ⟨by simp, rfl⟩⟩, g2⟩
            · split at h
              · obtain ⟨s1, h1, h⟩ := bind_ok h
                obtain ⟨⟨t2, s2⟩, h2, h⟩ := bind_ok h
                obtain ⟨s3, h3, h⟩ := bind_ok h
                cases h
                obtain ⟨g1, g2⟩ := ih1 _ _ _ _ (adv_okNum h1 hs) h2
                exact ⟨g1, mustT_okNum h3 g2⟩
              · split at h
                · rename_i k hk
                  obtain ⟨s1, h1, h⟩ := bind_ok h
                  cases h
                  refine ⟨.inl ⟨rfl, by omega, ?_, rfl⟩, adv_okNum h1 hs⟩
                  unfold kindOf at hk
                  simp only [Option.map_eq_some_iff] at hk
                  obtain ⟨i, hi, rfl⟩ := hk
                  have := (List.findIdx?_eq_some_iff_findIdx_eq.1 hi).1
                  have e : kindWords.length = 11 := rfl
                  omega
                · split at h
                  · exact ih3 _ _ _ _ hs h
                  · split at h
                    · rename_i hn
                      obtain ⟨s1, h1, h⟩ := bind_ok h
                      cases h
                      exact ⟨.inr (.inl ⟨rfl, rfl, hn⟩), adv_okNum h1 hs⟩
                    · cases h
        · cases h
    · unfold rw at h
      split at h
      · cases h; exact ⟨hu, hs⟩
      · rename_i op hop
        obtain ⟨s1, h1, h⟩ := bind_ok h
        obtain ⟨⟨t2, s2⟩, h2, h⟩ := bind_ok h
        obtain ⟨g1, g2⟩ := ih1 _ _ _ _ (adv_okNum h1 hs) h2
        exact ih2 _ _ _ _ _ g2 (good_row hu g1 hop) h
    · unfold wd at h
      split at h
      · obtain ⟨s1, h1, h⟩ := bind_ok h
        cases h
        exact ⟨.inr (.inr ⟨rfl, rfl, rfl⟩), adv_okNum h1 hs⟩
      · split at h
        · rename_i hbi
          obtain ⟨s1, h1, h⟩ := bind_ok h
          split at h
          · rename_i t0 r
            split at h
            · cases h
            · rename_i hnn
              obtain ⟨s2, h2, h⟩ := bind_ok h
              obtain ⟨s3, h3, h⟩ := bind_ok h
              obtain ⟨⟨t4, s4⟩, h4, h⟩ := bind_ok h
              cases h
              obtain ⟨g1, g2⟩ := ih1 _ _ _ _ (mustT_okNum h3 (adv_okNum h2 (adv_okNum h1 hs))) h4
              refine ⟨⟨rfl, g1, .inr ⟨?_, ?_⟩⟩, g2⟩
              · simp only [bindsO, Bool.and_eq_true, decide_eq_true_eq] at hbi; omega
              · cases hq : qName t0.text with
                | true => rfl
                | false => exact absurd (.inr hq) hnn
          · cases h
        · split at h
          · rename_i hca
            have hc5 : op = 8 ∨ op = 9 ∨ op = 10 ∨ op = 20 ∨ op = 21 := by simpa [callO, or_assoc] using hca
            obtain ⟨s1, h1, h⟩ := bind_ok h
            obtain ⟨s2, h2, h⟩ := bind_ok h
            obtain ⟨⟨t3, s3⟩, h3, h⟩ := bind_ok h
            obtain ⟨g1, g2⟩ := ih1 _ _ _ _ (mustT_okNum h2 (adv_okNum h1 hs)) h3
            dsimp only at h
            split at h
            · rename_i hk
              obtain ⟨s4, h4, h⟩ := bind_ok h
              cases h
              refine ⟨⟨rfl, g1, .inl ⟨?_, rfl⟩⟩, mustT_okNum h4 g2⟩
              rcases hc5 with rfl | rfl | rfl | rfl | rfl <;> first | (simp; done) | exact absurd hk (by decide)
            · rename_i hk
              obtain ⟨s4, h4, h⟩ := bind_ok h
              obtain ⟨⟨t5, s5⟩, h5, h⟩ := bind_ok h
              dsimp only at h
              obtain ⟨s6, h6, h⟩ := bind_ok h
              cases h
              obtain ⟨g3, g4⟩ := ih1 _ _ _ _ (mustT_okNum h4 g2) h5
              refine ⟨⟨rfl, g1, g3, rfl, ?_⟩, mustT_okNum h6 g4⟩
              rcases hc5 with rfl | rfl | rfl | rfl | rfl <;> first | (simp; done) | exact absurd (by decide) hk
          · cases h
theorem parse_good {l : List UInt8} {t : QT} (h : parseM l = .ok t) : goodT t ∧ t.depth ≤ 64 ∧ t.size ≤ l.length := by
  unfold parseM at h
  split at h
  · cases h
  · have hlen := lex_len (txt := l) l.length 0 (by omega) (by omega)
    split at h
    · cases h
    · obtain ⟨⟨t1, s1⟩, h1, h⟩ := bind_ok h
      have hz := (rd_size _).1 _ _ _ _ h1
      obtain ⟨g1, _⟩ := (rd_good _).1 _ _ _ _ (lexF_okNum _ _ _) h1
      dsimp only at h
      split at h
      · cases h
      · split at h
        · cases h
        · cases h; exact ⟨g1, by omega, by omega⟩
/-! ### Rows and trees -/
theorem own_good {t : QT} (h : goodT t) : ∀ x r, t.rows = x :: r → ownQ x.op x.num x.name = true ∧ x.op = t.op := by
  intro x r e
  cases t with
  | n0 op num name =>
    cases e
    refine ⟨?_, rfl⟩
    rcases h with ⟨rfl, h1, h2, rfl⟩ | ⟨rfl, rfl, h2⟩ | ⟨rfl, rfl, rfl⟩
    · simp [ownQ, bindsO, h1]
    · simp [ownQ, bindsO, h2]
    · simp [ownQ, bindsO]
  | n1 op num name a =>
    cases e
    refine ⟨?_, rfl⟩
    obtain ⟨rfl, _, ⟨hop, rfl⟩ | ⟨hop, hn⟩⟩ := h
    · rcases hop with rfl | rfl | rfl | rfl | rfl <;> simp [ownQ, bindsO]
    · rcases hop with rfl | rfl | rfl | rfl | rfl <;> simp [ownQ, bindsO, hn]
  | n2 op num name a b =>
    cases e
    refine ⟨?_, rfl⟩
    obtain ⟨rfl, _, _, rfl, hop⟩ := h
    rcases hop with rfl | rfl | rfl | rfl | rfl | rfl | rfl | rfl | rfl | rfl | rfl | rfl | rfl <;> simp [ownQ, bindsO]
theorem grow_rows : ∀ (t : QT), goodT t → ∀ (f above : Nat) (r : List QN), t.depth < f → t.depth + above ≤ 64 → growF f above (t.rows ++ r) = some (t, r)
  | t, _, 0, _, _, h, _ => by omega
  | .n0 op num name, hg, f + 1, above, r, hf, hd => by
    obtain ⟨ho, _⟩ := own_good hg _ _ rfl
    show growF (f + 1) above (⟨op, 1, num, name⟩ :: r) = _
    have hk : kidsO op.toNat = 0 := by rcases hg with ⟨rfl, _⟩ | ⟨rfl, _⟩ | ⟨rfl, _⟩ <;> rfl
    rw [growF, if_neg (by simp [QT.depth] at hd; omega)]
    simp only [ho, Bool.true_eq_false, if_false, hk, if_true]
  | .n1 op num name a, hg, f + 1, above, r, hf, hd => by
    obtain ⟨ho, _⟩ := own_good hg _ _ rfl
    show growF (f + 1) above (⟨op, 1 + a.size, num, name⟩ :: (a.rows ++ r)) = _
    simp only [QT.depth] at hf hd
    have hk : kidsO op.toNat = 1 := by
      obtain ⟨_, _, ⟨hop, _⟩ | ⟨hop, _⟩⟩ := hg <;> rcases hop with rfl | rfl | rfl | rfl | rfl <;> rfl
    rw [growF, if_neg (by omega)]
    simp only [ho, Bool.true_eq_false, if_false, hk, Nat.one_ne_zero, grow_rows a hg.2.1 f (above + 1) r (by omega) (by omega), if_true]
  | .n2 op num name a b, hg, f + 1, above, r, hf, hd => by
    obtain ⟨ho, _⟩ := own_good hg _ _ rfl
    have e : (QT.n2 op num name a b).rows ++ r = ⟨op, 1 + a.size + b.size, num, name⟩ :: (a.rows ++ (b.rows ++ r)) := by simp [QT.rows]
    rw [e]
    simp only [QT.depth] at hf hd
    have hk : kidsO op.toNat = 2 := by
      obtain ⟨_, _, _, _, hop⟩ := hg
      rcases hop with rfl | rfl | rfl | rfl | rfl | rfl | rfl | rfl | rfl | rfl | rfl | rfl | rfl <;> rfl
    rw [growF, if_neg (by omega)]
    simp only [ho, Bool.true_eq_false, if_false, hk, (by decide : ¬ (2 = 0)), (by decide : ¬ (2 = 1)), grow_rows a hg.2.1 f (above + 1) (b.rows ++ r) (by omega) (by omega), grow_rows b hg.2.2.1 f (above + 1) r (by omega) (by omega), if_true]
theorem own_ops {op num : Int} {name : List UInt8} (h : ownQ op num name = true) : ∃ k : Nat, op = k ∧ 1 ≤ k ∧ k ≤ 26 ∧ 0 ≤ num ∧ (k ≠ 1 → num = 0) ∧ (22 ≤ k ∨ k = 2 → qName name = true) ∧ (¬ (22 ≤ k ∨ k = 2) → name = []) := by
  unfold ownQ at h
  simp only [Bool.and_eq_true, decide_eq_true_eq, Bool.or_eq_true] at h
  obtain ⟨⟨⟨⟨h1, h2⟩, h3⟩, h4⟩, h5⟩ := h
  refine ⟨op.toNat, by omega, by omega, by omega, h3, fun hk => ?_, fun hk => ?_, fun hk => ?_⟩
  · rcases h4 with h4 | h4
    · exact h4
    · omega
  · rw [if_pos] at h5
    · exact h5
    · simp only [bindsO, Bool.and_eq_true, decide_eq_true_eq]; omega
  · rw [if_neg] at h5
    · exact of_decide_eq_true h5
    · simp only [bindsO, Bool.and_eq_true, decide_eq_true_eq]; omega
theorem kids_cases {k : Nat} (h1 : 1 ≤ k) (h2 : k ≤ 26) : (kidsO k = 0 ∧ (k = 1 ∨ k = 2 ∨ k = 3)) ∨ (kidsO k = 1 ∧ ((k = 4 ∨ k = 8 ∨ k = 9 ∨ k = 10 ∨ k = 17) ∨ (k = 22 ∨ k = 23 ∨ k = 24 ∨ k = 25 ∨ k = 26))) ∨ (kidsO k = 2 ∧ (k = 5 ∨ k = 6 ∨ k = 7 ∨ k = 11 ∨ k = 12 ∨ k = 13 ∨ k = 14 ∨ k = 15 ∨ k = 16 ∨ k = 18 ∨ k = 19 ∨ k = 20 ∨ k = 21)) := by
  have hall : ∀ k ∈ List.range 27, 1 ≤ k → (kidsO k = 0 ∧ (k = 1 ∨ k = 2 ∨ k = 3)) ∨ (kidsO k = 1 ∧ ((k = 4 ∨ k = 8 ∨ k = 9 ∨ k = 10 ∨ k = 17) ∨ (k = 22 ∨ k = 23 ∨ k = 24 ∨ k = 25 ∨ k = 26))) ∨ (kidsO k = 2 ∧ (k = 5 ∨ k = 6 ∨ k = 7 ∨ k = 11 ∨ k = 12 ∨ k = 13 ∨ k = 14 ∨ k = 15 ∨ k = 16 ∨ k = 18 ∨ k = 19 ∨ k = 20 ∨ k = 21)) := by decide
  exact hall k (List.mem_range.2 (by omega)) h1
/-- a row's tree -/
theorem grow_good : ∀ (f above : Nat) (l : List QN) (t : QT) (r : List QN), (∀ x ∈ l, x.num ≤ 9223372036854775807) → growF f above l = some (t, r) → goodT t ∧ l = t.rows ++ r ∧ t.depth + above ≤ 64
  | 0, _, _, _, _, _, h => by simp [growF] at h
  | f + 1, _, [], _, _, _, h => by simp [growF] at h
  | f + 1, above, x :: r, t, r', hn, h => by
    rw [growF] at h
    split at h
    · cases h
    · rename_i hab
      split at h
      · cases h
      · rename_i ho
        have ho : ownQ x.op x.num x.name = true := by simpa using ho
        obtain ⟨k, hk, k1, k2, k3, k4, k5, k6⟩ := own_ops ho
        obtain ⟨xop, xsize, xnum, xname⟩ := x
        have hk : xop = k := hk
        subst hk
        have hx := hn _ (List.mem_cons_self ..)
        have hnr : ∀ x ∈ r, x.num ≤ 9223372036854775807 := fun x hx => hn x (List.mem_cons_of_mem _ hx)
        dsimp only at h k3 k4 k5 k6 hx
        rw [Int.toNat_natCast] at h
        rcases kids_cases k1 k2 with ⟨e, hop⟩ | ⟨e, hop⟩ | ⟨e, hop⟩
        · rw [if_pos e] at h
          split at h
          · rename_i hs
            cases h
            refine ⟨?_, by rw [hs]; rfl, by simp [QT.depth]; omega⟩
            rcases hop with rfl | rfl | rfl
            · exact .inl ⟨rfl, k3, hx, k6 (by omega)⟩
            · exact .inr (.inl ⟨rfl, k4 (by omega), k5 (by omega)⟩)
            · exact .inr (.inr ⟨rfl, k4 (by omega), k6 (by omega)⟩)
          · cases h
        · rw [if_neg (by omega)] at h
          split at h
          · cases h
          · rename_i a r1 ha
            obtain ⟨ga, ea, da⟩ := grow_good f (above + 1) r a r1 hnr ha
            rw [if_pos e] at h
            split at h
            · rename_i hs
              cases h
              refine ⟨⟨k4 (by omega), ga, ?_⟩, by rw [hs, ea]; rfl, by simp only [QT.depth]; omega⟩
              rcases hop with hop | hop
              · refine .inl ⟨?_, k6 (by omega)⟩
                rcases hop with rfl | rfl | rfl | rfl | rfl <;> simp
              · refine .inr ⟨?_, k5 (by omega)⟩
                rcases hop with rfl | rfl | rfl | rfl | rfl <;> simp
            · cases h
        · rw [if_neg (by omega)] at h
          split at h
          · cases h
          · rename_i a r1 ha
            obtain ⟨ga, ea, da⟩ := grow_good f (above + 1) r a r1 hnr ha
            rw [if_neg (by omega)] at h
            split at h
            · cases h
            · rename_i b r2 hb
              have hnr1 : ∀ x ∈ r1, x.num ≤ 9223372036854775807 := fun x hx => hnr x (by rw [ea]; exact List.mem_append_right _ hx)
              obtain ⟨gb, eb, db⟩ := grow_good f (above + 1) r1 b r2 hnr1 hb
              split at h
              · rename_i hs
                cases h
                refine ⟨⟨k4 (by omega), ga, gb, k6 (by omega), ?_⟩, by rw [hs, ea, eb]; simp [QT.rows], by simp only [QT.depth]; omega⟩
                rcases hop with rfl | rfl | rfl | rfl | rfl | rfl | rfl | rfl | rfl | rfl | rfl | rfl | rfl <;> simp
              · cases h
theorem whole_good {l : List QN} {t : QT} (hn : ∀ x ∈ l, x.num ≤ 9223372036854775807) (h : wholeM l = some t) : goodT t ∧ l = t.rows ∧ t.depth ≤ 64 := by
  unfold wholeM at h
  split at h
  · rename_i t' hg
    cases h
    obtain ⟨h1, h2, h3⟩ := grow_good _ _ _ _ _ hn hg
    exact ⟨h1, by rw [h2, List.append_nil], by omega⟩
  · cases h
theorem whole_rows {t : QT} (hg : goodT t) (hd : t.depth ≤ 64) : wholeM t.rows = some t := by
  have := grow_rows t hg 66 0 [] (by omega) (by omega)
  rw [List.append_nil] at this
  unfold wholeM; rw [this]
/-- P30.7: what a tree's text says is that tree -/
theorem backA {l : List QN} {s : List UInt8} (hn : ∀ x ∈ l, x.num ≤ 9223372036854775807) (h : printM l = .ok s) : ∃ t, parseM s = .ok t ∧ t.rows = l ∧ s.length ≤ 4096 := by
  unfold printM at h
  split at h
  · cases h
  · rename_i t ht
    obtain ⟨h1, h2, h3⟩ := whole_good hn ht
    split at h
    · cases h
    · split at h
      · cases h
      · cases h
        refine ⟨t, parse_told h1 h3 (by omega) ?_, h2.symm, by omega⟩
        have := tk_told wide_id t h1 [] rfl
        simpa [tk_nil] using this
/-- what a text says has a text that says the same, blanks more or not -/
theorem backB {txt : List UInt8} {t : QT} (h : parseM txt = .ok t) : printM t.rows = .error 3 ∨ ∃ s, printM t.rows = .ok s ∧ parseM s = .ok t ∧ s.length ≤ 4096 ∧ ((s.flatMap wideB).length ≤ 4096 → parseM (s.flatMap wideB) = .ok t) := by
  obtain ⟨h1, h2, h3⟩ := parse_good h
  unfold printM
  rw [whole_rows h1 h2]
  dsimp only
  split
  · exact .inl rfl
  · split
    · exact .inl rfl
    · refine .inr ⟨_, rfl, parse_told h1 h2 (by omega) ?_, by omega, fun hw => parse_told h1 h2 hw ?_⟩
      · have := tk_told wide_id t h1 [] rfl
        simpa [tk_nil] using this
      · have := tk_told wide_law t h1 [] rfl
        simpa [tk_nil] using this
end Go.Vc
