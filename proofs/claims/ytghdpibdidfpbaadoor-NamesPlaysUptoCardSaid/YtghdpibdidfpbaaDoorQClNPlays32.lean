/- NamesPlays: makes. -/
import Derived.Test.YtghdpibdidfpbaaDoorQClNPlays31
import Derived.LaidEqlPtr
namespace Go.Vc
open Go Go.Proofs
set_option maxRecDepth 10000
section
variable {P : Program} {n : Nat} {w : World} {e : Env} {K : EPost} {all : List Oper} {G : List Nat} {ro : Option Nat} {dst : Option Tmp} {ty : TypeId} {pos : String} {after : Array Edge} {g : Option (Nat × Bool)} {l : List Oper} {t : TypeId} {x y : Operand}
/-- append of a row that may be empty -/
theorem o_appendZ {T : TypeId} {td : TypeDesc} {tn : String} {size tby : Nat} {thp : Bool} {tal tfa : Nat} {z : Value} {tcm : Bool} {tms : Array Method}
    {ad ay : Option Addr} {k cap m cy : Nat} {xs : List Value} (news : List Value)
    (hx : ev e x = .slice ad k cap) (hy : ev e y = .slice ay m cy) (ho : OwnS w T size ad k cap xs) (hn : ReadS w ay news)
    (hu : P.underlying t = some (.slice T)) (hi : P.info? T = some ⟨td, tn, size, tby, thp, tal, tfa, some z, tcm, tms⟩) (hzs : z.cells.size = size) (hsz : 0 < size)
    (hl : news.length = m * size) (h1 : ∀ v ∈ news, v.oneCell' = true) (h63 : k + m ≤ maxLen) (hby : (k + m) * tby ≤ 140737488355328) (hd : dOk n dst = true) (hm : may all G e g = some true)
    (kk : ∀ ad' cap' w', OwnS w' T size ad' (k + m) cap' (xs ++ news) → Kp (blkOf ad) w w' → (∀ b, b ∈ blkOf ad' → b ∈ blkOf ad ∨ w.heap.size ≤ b) → Ops ro P n all G K l (put e dst (.slice ad' (k + m) cap')) w') :
    Ops ro P n all G K (⟨dst, .call ⟨.builtin .append, #[x, y], #[t, t]⟩, ty, pos, after, g⟩ :: l) e w := by
  by_cases h0 : m = 0
  · subst h0
    have hxs : news = [] := List.eq_nil_of_length_eq_zero (by omega)
    subst hxs
    exact o_append0 hx hy ho.le_cap hu hi hd hm (kk ad cap w (by rw [List.append_nil]; exact ho) (Kp.refl _ _) (fun b hb => .inl hb))
  · have hpos : 0 < news.length := by rw [hl]; exact Nat.mul_pos (by omega) hsz
    obtain ⟨b, off, rfl, _, _⟩ := hn.at_ hpos
    exact o_append news hx hy ho (fun j v hv => hn j v hv) hu hi hzs hsz hl (by omega) h1 h63 hby hd hm kk
/-- two pointers to blocks of their own -/
theorem o_eqPtr {te ty2 : TypeId} {j : TypeInfo} {p q : Nat} {L M : List Value} {T U : TypeId} (hx : ev e x = .pointer (some ⟨p, 0, none⟩)) (hy : ev e y = .pointer (some ⟨q, 0, none⟩)) (hne : p ≠ q) (hp : Blk w p L T) (hq : Blk w q M U) (hu : P.underlying t = some (.pointer te)) (hi : P.info? te = some j) (hs : j.size ≠ 0)
    (hd : dOk n dst = true) (hm : may all G e g = some true) (k : Ops ro P n all G K l (put e dst (.bool false)) w) : Ops ro P n all G K (⟨dst, .binOp .eql t x y ty2, ty, pos, after, g⟩ :: l) e w := by
  refine ops_does hd hm ?_ k
  have h1 := run_eql_ptr_other (P := P) w (a := ⟨p, 0, none⟩) (b := ⟨q, 0, none⟩) hu hi hs (by intro h; cases h; exact hne rfl) hp hq
  simp only [execOp, Sem.run_bind, hx, hy, show eqGuard .eql t x y (.pointer (some ⟨p, 0, none⟩)) (.pointer (some ⟨q, 0, none⟩)) = pure () from rfl, Sem.run_pure, Result.andThen_ok, h1]
end
variable {w w0 : World} {g : DG}
/-- New, its table there or not -/
theorem newU_ret {ad : Option Addr} {cap : Nat} (names : List Str) (hr : ReadS w ad (names.map S)) (hs : ∀ s ∈ names, s.length ≤ 9223372036854775807) (hn : names.length ≤ 9223372036854775807) :
    Ret Tryd.prog 5 [.slice ad names.length cap] w (fun v w' => ∃ a f1, v = .tuple #[.pointer a, I (newGo [] names).2] ∧ a.isNone = (newGo [] names).1.isNone ∧ TabO w' (.pointer a) f1 (newGo [] names).1 ∧ Kp [] w w' ∧ ∀ b, b ∈ f1 → w.heap.size ≤ b ∧ b < w'.heap.size) := by
  refine (new_ret names hr hs hn).mono ?_
  intro v w' hp
  cases hgo : newGo [] names with
  | mk r x =>
    rw [hgo] at hp
    cases r with
    | none =>
      obtain ⟨rfl, hk⟩ := hp
      exact ⟨none, [], rfl, rfl, ⟨.inl rfl, fun p hp => by cases hp⟩, hk, by simp⟩
    | some l =>
      obtain ⟨p, fp, m, ad, cap, rfl, hT, hk, hf⟩ := hp
      exact ⟨_, fp, rfl, rfl, ⟨p, m, ad, cap, rfl, hT⟩, hk, fun b hb => ⟨hf b hb, hT.lt b hb⟩⟩
theorem rnewU_ret {ad : Option Addr} {cap : Nat} (names : List Str) (hr : ReadS w ad (names.map S)) (hs : ∀ s ∈ names, s.length ≤ 9223372036854775807) (hn : names.length ≤ 9223372036854775807) :
    Ret Tryd.prog 15 [.slice ad names.length cap] w (fun v w' => ∃ a f1, v = .tuple #[.pointer a, I (newGo [] names).2] ∧ a.isNone = (newGo [] names).1.isNone ∧ TabR w' (.pointer a) f1 (newGo [] names).1 ∧ Kp [] w w' ∧ ∀ b, b ∈ f1 → w.heap.size ≤ b ∧ b < w'.heap.size) := by
  refine (rnew_ret names hr hs hn).mono ?_
  intro v w' hp
  cases hgo : newGo [] names with
  | mk r x =>
    rw [hgo] at hp
    cases r with
    | none =>
      obtain ⟨rfl, hk⟩ := hp
      exact ⟨none, [], rfl, rfl, ⟨rfl, rfl⟩, hk, by simp⟩
    | some l =>
      obtain ⟨q, ad, cap, rfl, hT, hk, hf⟩ := hp
      exact ⟨_, rfp q ad, rfl, rfl, ⟨q, ad, cap, rfl, rfl, hT⟩, hk, fun b hb => ⟨hf b hb, hT.lt b hb⟩⟩
theorem newGo_nodup : ∀ (ns acc : List Str) {l : List Str} {x : Int}, acc.Nodup → newGo acc ns = (some l, x) → l.Nodup
  | [], acc, l, x, ha, hh => by cases hh; exact ha
  | y :: r, acc, l, x, ha, hh => by
    unfold newGo at hh
    split at hh
    · exact newGo_nodup r _ (addL_nodup' ha) hh
    · cases hh
/-- a step of the script -/
structure StG where
  kind : Int
  on : Int
  name : Str
  N : Int
  least : Nat
  na : Option Addr
  nc : Nat
  names : List Str
  leave : Int
def stC (s : StG) : List Value := [I s.kind, I s.on, S s.name, I s.N, .float .f64 s.least, .slice s.na s.names.length s.nc, I s.leave]
def inI (x : Int) : Prop := -9223372036854775808 ≤ x ∧ x ≤ 9223372036854775807
structure StOk (w : World) (s : StG) : Prop where
  kind : inI s.kind
  on : inI s.on
  N : inI s.N
  leave : inI s.leave
  name : s.name.length ≤ 9223372036854775807
  rd : ReadS w s.na (s.names.map S)
  each : ∀ x ∈ s.names, x.length ≤ 9223372036854775807
  few : s.names.length ≤ 1048576
theorem StOk.kp {w' : World} {s : StG} (h : StOk w s) (hk : Kp [] w w') : StOk w' s := ⟨h.kind, h.on, h.N, h.leave, h.name, h.rd.kp hk (by simp), h.each, h.few⟩
theorem cells_set (g : DG) {k : Nat} (hk : k < 4) (v : Value) : (g.cells g.v).set k v = g.cells (setN g.v k v) := by
  have : k = 0 ∨ k = 1 ∨ k = 2 ∨ k = 3 := by omega
  rcases this with rfl | rfl | rfl | rfl <;> simp [DG.cells, setN]
/-- the tables turned, the lists as they were -/
def DTo (w0 w' : World) (g : DG) : Prop := Kp [] w0 w' ∧ ∃ v' f' o', DS w0 w' { g with v := v', f := f', o := o' } ∧ (o' 0 = o' 2 ∧ o' 1 = o' 3)
/-- a pair of tables is put in a pair's place -/
theorem put_pair {w1 w2 w3 : World} {n : Nat} (hn : n < 2) (h : DS w0 w1 g) (heq : g.o 0 = g.o 2 ∧ g.o 1 = g.o 3) {v1 v2 : Value} {f1 f2 : List Nat} {o : Option (List Str)} (hT : TabO w1 v1 f1 o) (hR : TabR w1 v2 f2 o)
    (hf1 : ∀ b, b ∈ f1 → w0.heap.size ≤ b ∧ b < w1.heap.size ∧ (∀ i, b ∉ g.F i)) (hf2 : ∀ b, b ∈ f2 → w0.heap.size ≤ b ∧ b < w1.heap.size ∧ (∀ i, b ∉ g.F i) ∧ b ∉ f1) (hnd : ∀ l, o = some l → l.Nodup)
    (hu1 : Upd w1 g.W (.cells ⟨(g.cells g.v).set n v1⟩ 51 (0, 0)) w2) (hu2 : Upd w2 g.W (.cells ⟨((g.cells g.v).set n v1).set (2 + n) v2⟩ 51 (0, 0)) w3) :
    ∃ v' f' o', DS w0 w3 { g with v := v', f := f', o := o' } ∧ (o' 0 = o' 2 ∧ o' 1 = o' 3) := by
  have e1 := cells_set g (k := n) (by omega) v1
  rw [e1] at hu1 hu2
  have d1 := h.put (k := n) (by omega) (by unfold TP; rw [if_pos hn]; exact hT) hu1 (fun b hb => ⟨(hf1 b hb).1, (hf1 b hb).2.1, fun i _ => (hf1 b hb).2.2 i⟩) hnd
  have e2 := cells_set ({ g with v := setN g.v n v1, f := setN g.f n f1, o := setN g.o n o } : DG) (k := 2 + n) (by omega) v2
  have hR2 : TabR w2 v2 f2 o := hR.kp (hu1.kp [g.W] (.inl (by simp))) (fun b hb hm => (hf2 b hb).2.2.1 .d (by simpa [DG.F] using hm))
  have hu2' : Upd w2 g.W (.cells ⟨({ g with v := setN g.v n v1, f := setN g.f n f1, o := setN g.o n o } : DG).cells (setN (setN g.v n v1) (2 + n) v2)⟩ 51 (0, 0)) w3 := by
    rw [← e2]; exact hu2
  have d2 := d1.put (k := 2 + n) (by omega) (by unfold TP; rw [if_neg (by omega)]; exact hR2) hu2' (fun b hb => ⟨(hf2 b hb).1, Nat.lt_of_lt_of_le (hf2 b hb).2.1 hu1.size, fun i _ hm => by
    cases i with
    | t j =>
      by_cases hj : j < 4
      · rw [DG.Ft hj] at hm
        have hm : b ∈ setN g.f n f1 j := hm
        by_cases c : j = n
        · subst c; rw [setN_same] at hm; exact (hf2 b hb).2.2.2 hm
        · rw [setN_ne c] at hm
          exact (hf2 b hb).2.2.1 (.t j) (by rw [DG.Ft hj]; exact hm)
      · simp [DG.F, hj] at hm
    | d => exact (hf2 b hb).2.2.1 .d hm
    | kr => exact (hf2 b hb).2.2.1 .kr hm
    | wr => exact (hf2 b hb).2.2.1 .wr hm
    | ek j => exact (hf2 b hb).2.2.1 (.ek j) hm
    | ew j => exact (hf2 b hb).2.2.1 (.ew j) hm⟩) hnd
  exact ⟨_, _, _, d2, eqs_set heq hn⟩
set_option maxHeartbeats 6400000 in
theorem makes_ret (h : DS w0 w g) (hk0 : Kp [] w0 w) (heq : g.eqs) {n : Nat} (hn : n < 2) {s : StG} (hs : StOk w0 s) :
    Ret Tryd.prog 37 [ptr g.W, I n, .agg ⟨stC s⟩] w (fun v w' => v = .bool true ∧ DTo w0 w' g) := by
  have hsz := h.size
  have hN := hs.N
  have hKi := hs.kind
  unfold inI at hN hKi
  refine enter Tryd.call37 Tryd.func37 rfl rfl rfl rfl ?_
  (repeat first|refine zA ?_|refine zg ?_)
  refine o_box rfl rfl rfl ?_
  intro b5 w1 hb5 hu1
  have s1 := hu1.size; have t1 := hu1.lt
  have k1 : Kp [] w w1 := hu1.kp [] (.inr (by omega))
  have hB1 : Blk w1 b5 (stC s) 58 := hu1.blk
  have h1 := h.kp0 k1
  have k01 := hk0.trans k1
  (repeat first|refine zA ?_|refine zB ?_|refine zg ?_|refine zo rfl rfl trivial ?_|refine zn ?_)
  refine o_load rfl hB1 rfl rfl rfl rfl rfl ?_
  (repeat first|refine zA ?_|refine zg ?_|refine zo rfl rfl trivial ?_|refine zn ?_|refine zb ?_)
  refine r_if rfl (fun hc10 => ?_) (fun hc10 => ?_)
  · -- none
    (repeat first|refine zA ?_|refine zg ?_|refine zo rfl rfl (by first|exact trivial|(simp only[AllP];omega)) ?_)
    refine o_store (b := g.W) (off := n) (v := .pointer none) (by exact ptr_eq (by omega)) h1.hdr (by simp; omega) rfl rfl rfl rfl rfl rfl ?_
    intro w2 hu2
    (repeat first|refine zg ?_|refine zo rfl rfl (by first|exact trivial|(simp only[AllP];omega)) ?_|refine zn ?_)
    refine o_store (b := g.W) (off := 2 + n) (v := .pointer none) (by show Value.pointer (some ⟨g.W, 0 + (1 + 1) + (n : Int).toNat, none⟩) = _; rw [show 0 + (1 + 1) + (n : Int).toNat = 2 + n by omega]) hu2.blk (by rw [List.length_set]; simp; omega) rfl rfl rfl rfl rfl rfl ?_
    intro w3 hu3
    (repeat first|refine zA ?_|refine zg ?_|refine zo rfl rfl trivial ?_|refine zn ?_|refine zr ?_)
    have k13 : Kp [g.W] w1 w3 := (hu2.kp [g.W] (.inl (by simp))).trans (hu3.kp [g.W] (.inl (by simp)))
    refine ⟨_, rfl, rfl, k01.since k13 (by simp; exact h.low .d g.W (by simp [DG.F])), ?_⟩
    exact put_pair hn h1 heq (v1 := .pointer none) (v2 := .pointer none) (f1 := []) (f2 := []) (o := none) ⟨.inl rfl, fun p hp => by cases hp⟩ ⟨rfl, rfl⟩ (by simp) (by simp) (by simp) hu2 hu3
  · (repeat first|refine zA ?_|refine zg ?_|refine zo rfl rfl trivial ?_|refine zn ?_)
    refine r_if rfl (fun hc8 => ?_) (fun hc8 => ?_)
    · -- a copy
      (repeat first|refine zA ?_|refine zg ?_|refine zo rfl rfl trivial ?_)
      refine o_load rfl hB1 rfl rfl rfl rfl rfl ?_
      obtain ⟨m, hm, hmN⟩ : ∃ m : Nat, m < 2 ∧ (s.N.tmod 2 + 2).tmod 2 = (m : Int) := by
        have h1 := tmod_rng s.N 2 (by decide)
        have h2 := tmod_nn (s.N.tmod 2 + 2) 2 (by omega) (by decide)
        exact ⟨((s.N.tmod 2 + 2).tmod 2).toNat, by omega, by omega⟩
      have htr := tmod_rng s.N 2 (by decide)
      (repeat first|refine zA ?_|refine zg ?_|refine zo rfl rfl (by first|exact trivial|(simp only[AllP];omega)) ?_|refine zn ?_)
      rw [hmN]
      obtain ⟨pm, hpm⟩ := (h.to hm).ptr
      obtain ⟨qm, hqm⟩ := (h.tr hm).ptr
      have hem := heq.at_ hm
      refine o_loadc (v := g.v m) rfl (by show w1.cell? ⟨g.W, 0 + (m : Int).toNat, none⟩ = _; rw [show 0 + (m : Int).toNat = m by omega]; exact h1.own_cell hm) rfl rfl rfl rfl ?_
      rw [hpm]
      cases ho : g.o m with
      | none =>
        have hTm : NoTab w1 (.pointer pm) := by
          have := h1.to hm
          rw [ho, hpm] at this
          exact this.1
        have hRm : qm = none := by
          have := h1.tr hm
          rw [← hem, ho, hqm] at this
          have := this.1
          cases this; rfl
        subst hRm
        refine o_call (copy_no hTm) rfl rfl rfl ?_
        rintro v w1' ⟨rfl, rfl⟩
        (repeat first|refine zA ?_|refine zg ?_|refine zo rfl rfl (by first|exact trivial|(simp only[AllP];omega)) ?_|refine zn ?_)
        refine o_loadc (v := g.v (2 + m)) rfl (by show w1'.cell? ⟨g.W, 0 + (1 + 1) + (m : Int).toNat, none⟩ = _; rw [show 0 + (1 + 1) + (m : Int).toNat = 2 + m by omega]; exact h1.ref_cell hm) rfl rfl rfl rfl ?_
        rw [hqm]
        refine o_call rcopy_nil rfl rfl rfl ?_
        rintro v w1'' ⟨rfl, rfl⟩
        (repeat first|refine zA ?_|refine zB ?_|refine zg ?_|refine zo rfl rfl (by first|exact trivial|(simp only[AllP];omega)) ?_|refine zn ?_|refine zk ?_|refine zU rfl rfl rfl ?_|refine zf rfl ?_)
        refine o_store (b := g.W) (off := n) (v := .pointer none) (by exact ptr_eq (by omega)) h1.hdr (by simp; omega) rfl rfl rfl rfl rfl rfl ?_
        intro w2 hu2
        (repeat first|refine zg ?_|refine zo rfl rfl (by first|exact trivial|(simp only[AllP];omega)) ?_|refine zn ?_)
        refine o_store (b := g.W) (off := 2 + n) (v := .pointer none) (by show Value.pointer (some ⟨g.W, 0 + (1 + 1) + (n : Int).toNat, none⟩) = _; rw [show 0 + (1 + 1) + (n : Int).toNat = 2 + n by omega]) hu2.blk (by rw [List.length_set]; simp; omega) rfl rfl rfl rfl rfl rfl ?_
        intro w3 hu3
        (repeat first|refine zA ?_|refine zg ?_|refine zo rfl rfl trivial ?_|refine zn ?_|refine zr ?_)
        have k13 : Kp [g.W] w1'' w3 := (hu2.kp [g.W] (.inl (by simp))).trans (hu3.kp [g.W] (.inl (by simp)))
        refine ⟨_, rfl, rfl, k01.since k13 (by simp; exact h.low .d g.W (by simp [DG.F])), ?_⟩
        exact put_pair hn h1 heq (v1 := .pointer none) (v2 := .pointer none) (f1 := []) (f2 := []) (o := none) ⟨.inl rfl, fun p hp => by cases hp⟩ ⟨rfl, rfl⟩ (by simp) (by simp) (by simp) hu2 hu3
      | some l =>
        have hTm := h1.to hm
        rw [ho, hpm] at hTm
        obtain ⟨p, mm, ad, cap, hpp, hTm⟩ := hTm
        cases hpp
        have hRm := h1.tr hm
        rw [← hem, ho, hqm] at hRm
        obtain ⟨q, adq, capq, hqq, _, hRm⟩ := hRm
        cases hqq
        refine o_call (ncopy_ret hTm) rfl rfl rfl ?_
        rintro v w2 ⟨p', fp', m', ad', cap', rfl, hT2, k12, hf2⟩
        have s2 := k12.size
        have h2 := h1.kp0 k12
        have hR2 := hRm.kp k12 (by simp)
        (repeat first|refine zA ?_|refine zg ?_|refine zo rfl rfl (by first|exact trivial|(simp only[AllP];omega)) ?_|refine zn ?_)
        refine o_loadc (v := g.v (2 + m)) rfl (by show w2.cell? ⟨g.W, 0 + (1 + 1) + (m : Int).toNat, none⟩ = _; rw [show 0 + (1 + 1) + (m : Int).toNat = 2 + m by omega]; exact h2.ref_cell hm) rfl rfl rfl rfl ?_
        rw [hqm]
        refine o_call (rcopy_ret hR2) rfl rfl rfl ?_
        rintro v w3 ⟨q', adq', capq', rfl, hR3, k23, hf3⟩
        have s3 := k23.size
        have h3 := h2.kp0 k23
        have hT3 := hT2.kp k23 (by simp)
        (repeat first|refine zA ?_|refine zB ?_|refine zg ?_|refine zo rfl rfl (by first|exact trivial|(simp only[AllP];omega)) ?_|refine zn ?_|refine zT rfl rfl rfl ?_|refine zU rfl rfl rfl ?_)
        refine o_loadc (v := g.v m) rfl (by show w3.cell? ⟨g.W, 0 + (m : Int).toNat, none⟩ = _; rw [show 0 + (m : Int).toNat = m by omega]; exact h3.own_cell hm) rfl rfl rfl rfl ?_
        rw [hpm]
        have hpne : p' ≠ p := by
          have h1 := hf2 p' (by rw [hT2.fp_eq]; simp)
          have h2 := hTm.hdr.lt
          omega
        refine o_eqPtr rfl rfl hpne hT3.hdr ((hTm.kp k12 (by simp)).kp k23 (by simp)).hdr rfl rfl (by decide) rfl rfl ?_
        (repeat first|refine zA ?_|refine zg ?_|refine zo rfl rfl (by first|exact trivial|(simp only[AllP];omega)) ?_|refine zn ?_|refine zk ?_|refine zf rfl ?_)
        refine o_store (b := g.W) (off := n) (v := ptr p') (by exact ptr_eq (by omega)) h3.hdr (by simp; omega) rfl rfl rfl rfl rfl rfl ?_
        intro w4 hu4
        (repeat first|refine zg ?_|refine zo rfl rfl (by first|exact trivial|(simp only[AllP];omega)) ?_|refine zn ?_)
        refine o_store (b := g.W) (off := 2 + n) (v := ptr q') (by show Value.pointer (some ⟨g.W, 0 + (1 + 1) + (n : Int).toNat, none⟩) = _; rw [show 0 + (1 + 1) + (n : Int).toNat = 2 + n by omega]) hu4.blk (by rw [List.length_set]; simp; omega) rfl rfl rfl rfl rfl rfl ?_
        intro w5 hu5
        (repeat first|refine zA ?_|refine zg ?_|refine zo rfl rfl trivial ?_|refine zn ?_|refine zr ?_)
        have k35 : Kp [g.W] w3 w5 := (hu4.kp [g.W] (.inl (by simp))).trans (hu5.kp [g.W] (.inl (by simp)))
        refine ⟨_, rfl, rfl, ((k01.trans k12).trans k23).since k35 (by simp; exact h.low .d g.W (by simp [DG.F])), ?_⟩
        exact put_pair hn h3 heq (v1 := ptr p') (v2 := ptr q') (f1 := fp') (f2 := rfp q' adq') (o := some l) ⟨p', m', ad', cap', rfl, hT3⟩ ⟨q', adq', capq', rfl, rfl, hR3⟩
          (fun b hb => ⟨by have := hf2 b hb; omega, hT3.lt b hb, fun i hm => by have := hf2 b hb; have := h1.lt i b hm; omega⟩)
          (fun b hb => ⟨by have := hf3 b hb; omega, hR3.lt b hb, fun i hm => by have := hf3 b hb; have := h1.lt i b hm; omega, fun hm => by have := hf3 b hb; have := hT2.lt b hm; omega⟩)
          (fun l' hl' => by cases hl'; exact h.nd m (by omega) l ho) hu4 hu5
    · -- new tables
      have hfewN := hs.few
      have rdN : ∀ W, Kp [] w0 W → ReadS W s.na (s.names.map S) := fun W hk => hs.rd.kp hk (by simp)
      (repeat first|refine zA ?_|refine zg ?_)
      refine o_buildSlice0 rfl rfl rfl rfl ?_
      intro ba w2 hba hu2
      have k12 : Kp [] w1 w2 := hu2.kp [] (.inr (by omega))
      have ho2 : OwnS w2 9 1 (some ⟨ba, 0, none⟩) 0 0 [] := ⟨rfl, rfl, rfl, Nat.le_refl _, by simp [maxLen], [], hu2.blk, rfl⟩
      have hB2 := k12.blk (by simp) hB1
      have s2 := k12.size
      (repeat refine zo rfl rfl trivial ?_)
      refine o_load rfl hB2 rfl rfl rfl rfl rfl ?_
      refine o_appendZ (s.names.map S) rfl rfl ho2 (rdN _ (k01.trans k12)) rfl rfl rfl (by omega) (by simp) (by simp [Value.oneCell']) (by simp only [maxLen]; omega) (by omega) rfl rfl ?_
      intro ad3 cap3 w3 ho3 kp3 hn3
      rw [Nat.zero_add, List.nil_append] at ho3
      have k13 : Kp [] w1 w3 := k12.since kp3 (by simp [blkOf]; omega)
      have s3 := kp3.size
      refine o_buildSlice [S [77, 65, 82, 75]] rfl (by simp [Value.oneCell']) rfl (by decide) (by decide) rfl rfl rfl rfl rfl ?_
      intro bm w4 hbm hu4
      have k34 : Kp [] w3 w4 := hu4.kp [] (.inr (by omega))
      rw [show 0 + s.names.length = s.names.length from Nat.zero_add _]
      refine o_append1 rfl rfl (ho3.kp k34 (by simp)) hu4.blk rfl rfl rfl rfl (by simp only [maxLen]; omega) (by omega) rfl rfl ?_
      intro ad5 cap5 w5 ho5 kp5 hn5
      have s4 := k34.size
      have s5 := kp5.size
      have new3 : ∀ b, b ∈ blkOf ad3 → w1.heap.size ≤ b := fun b hb => by
        rcases hn3 b hb with q | q
        · simp [blkOf] at q; omega
        · omega
      have new5 : ∀ b, b ∈ blkOf ad5 → w1.heap.size ≤ b := fun b hb => by
        rcases hn5 b hb with q | q
        · exact new3 b q
        · omega
      have k15 : Kp [] w1 w5 := (k13.trans k34).since kp5 (fun b hb => new3 b hb)
      have hB5 := k15.blk (by simp) hB1
      obtain ⟨bg, hbg⟩ : ∃ bg, ad5 = some ⟨bg, 0, none⟩ := by
        cases ad5 with
        | none => have := ho5.2.1; omega
        | some a =>
          obtain ⟨h1, h2, _⟩ := ho5.2
          obtain ⟨blk, off, spot⟩ := a
          dsimp only at h1 h2
          subst h1 h2
          exact ⟨_, rfl⟩
      subst hbg
      have hcap5 := ho5.le_cap
      (repeat first|refine zA ?_|refine zg ?_|refine zo rfl rfl trivial ?_|refine zn ?_)
      refine o_load rfl hB5 rfl rfl rfl rfl rfl ?_
      (repeat refine zo rfl rfl (by first|exact trivial|(simp only[AllP];omega)) ?_)
      rw [Int.toNat_natCast]
      have rd5 : ∀ W, Kp [] w5 W → ReadS W (some ⟨bg, 0, none⟩) (s.names.map S) := fun W hk j v hv => (ho5.kp hk (by simp)).read j v (by rw [List.getElem?_append_left (List.getElem?_eq_some_iff.1 hv).1]; exact hv)
      refine o_call (newU_ret s.names (rd5 _ (Kp.refl _ _)) hs.each (by omega)) rfl rfl rfl ?_
      rintro v w6 ⟨a1, f1, rfl, hn1, hT6, h56, hf1⟩
      have k16 : Kp [] w1 w6 := k15.trans h56
      have s6 := h56.size
      have hB6 := k16.blk (by simp) hB1
      (repeat first|refine zA ?_|refine zg ?_|refine zo rfl rfl trivial ?_|refine zn ?_)
      refine o_load rfl hB6 rfl rfl rfl rfl rfl ?_
      refine o_call (rnewU_ret s.names (rdN _ (k01.trans k16)) hs.each (by omega)) rfl rfl rfl ?_
      rintro v w7 ⟨a2, f2, rfl, hn2, hT7, h67, hf2⟩
      have k17 : Kp [] w1 w7 := k16.trans h67
      have s7 := h67.size
      have hB7 := k17.blk (by simp) hB1
      have k57 := h56.trans h67
      have ho7 := ho5.kp k57 (by simp)
      have hnd := fun l x => newGo_nodup s.names [] (l := l) (x := x) (by simp)
      generalize newGo [] s.names = nr at hn1 hn2 hT6 hT7 hnd ⊢
      obtain ⟨r, x⟩ := nr
      dsimp only at hn1 hn2 hT6 hT7 ⊢
      have hsplit : (a1 = none ∧ a2 = none) ∨ ∃ p q, a1 = some p ∧ a2 = some q := by
        cases a1 <;> cases a2
        · exact .inl ⟨rfl, rfl⟩
        · rw [← hn1] at hn2; cases hn2
        · rw [← hn1] at hn2; cases hn2
        · exact .inr ⟨_, _, rfl, rfl⟩
      (repeat first|refine zo rfl rfl trivial ?_|refine zn ?_)
      refine r_seq ?_
      refine r_cut (α := Unit) [0, 1, 5, 10, 11, 13] (fun _ => [ptr g.W, I n, ptr b5, .slice (some ⟨bg, 0, none⟩) (s.names.length + 1) cap5, .pointer a1, .pointer a2]) (fun _ W => W = w7) ?_ ?_
      · clear hT6 hT7
        rcases hsplit with ⟨rfl, rfl⟩ | ⟨p, q, rfl, rfl⟩
        all_goals
          (repeat first|refine zA ?_|refine zg ?_|refine zo rfl rfl trivial ?_)
          refine o_call (num_ret _ _) rfl rfl rfl ?_
          rintro v w7' ⟨rfl, rfl⟩
          (repeat refine zo rfl rfl trivial ?_)
          refine o_is false _ _ rfl rfl rfl (by simp) ?_
          (repeat first|refine zo rfl rfl trivial ?_|refine zU rfl rfl rfl ?_)
          refine o_load rfl hB7 rfl rfl rfl rfl rfl ?_
          (repeat refine zo rfl rfl (by first|exact trivial|(simp only[AllP];omega)) ?_)
          refine o_loadc (v := S [77, 65, 82, 75]) rfl (by rw [Int.toNat_natCast, Nat.zero_add]; exact OwnS.get ho7 (by rw [List.getElem?_append_right (by simp)]; simp)) rfl rfl rfl rfl ?_
          (repeat first|refine zo rfl rfl trivial ?_|refine zn ?_|refine zk ?_|refine zf rfl ?_)
          exact ⟨(), rfl, rfl⟩
      rintro _ e8 w8 rfl
      have h8 := (h1.kp0 k17)
      have k08 := k01.trans k17
      have wlt := h1.lt
      (repeat first|refine zA ?_|refine zB ?_|refine zg ?_|refine zo rfl rfl trivial ?_|refine zn ?_|refine zb ?_)
      refine r_loop (α := Nat) [0, 1, 5, 10, 11, 13, 15] (fun i => [ptr g.W, I n, ptr b5, .slice (some ⟨bg, 0, none⟩) (s.names.length + 1) cap5, .pointer a1, .pointer a2, I i])
        (fun i W => i ≤ s.names.length ∧ OwnS W 9 1 (some ⟨bg, 0, none⟩) (s.names.length + 1) cap5 (List.replicate i (S [111, 116, 104, 101, 114]) ++ ((s.names.drop i).map S ++ [S [77, 65, 82, 75]])) ∧ Kp [bg] w8 W) (fun i => s.names.length - i) 0 rfl
        ⟨Nat.zero_le _, by simpa using ho7, Kp.refl _ _⟩ ?_
      rintro i e9 W ⟨hi, hO, kW⟩
      have hbg1 := new5 bg (by simp [blkOf])
      have hBW := kW.blk (by simp; omega) hB7
      have k0W : Kp [] w0 W := k08.since kW (by simp; omega)
      (repeat first|refine zA ?_|refine zB ?_|refine zg ?_|refine zo rfl rfl trivial ?_)
      refine o_load rfl hBW rfl rfl rfl rfl rfl ?_
      (repeat first|refine zo rfl rfl trivial ?_|refine zn ?_)
      refine r_if rfl (fun hc => ?_) (fun hc => ?_)
      · have hc : i < s.names.length := by omega
        obtain ⟨x, hx⟩ : ∃ x, s.names[i]? = some x := ⟨_, List.getElem?_eq_getElem hc⟩
        have hdrop : s.names.drop i = x :: s.names.drop (i + 1) := by
          obtain ⟨hh, rfl⟩ := List.getElem?_eq_some_iff.1 hx
          exact List.drop_eq_getElem_cons hh
        obtain ⟨bn, offn, hna, _, _⟩ := (rdN W k0W).at_ (by simp; omega)
        have cn : ∀ W', Kp [] W W' → W'.cell? ⟨bn, offn + i, none⟩ = some (S x) := fun W' hk => by
          obtain ⟨b', off', he, _, hcc⟩ := (rdN W' (k0W.trans hk)).at_ (by simp; omega)
          rw [hna] at he
          cases he
          exact hcc i (S x) (by rw [List.getElem?_map, hx]; rfl)
        rw [hdrop] at hO
        have cg : ∀ W', Kp [] W W' → W'.cell? ⟨bg, i, none⟩ = some (S x) := fun W' hk => OwnS.get (hO.kp hk (by simp)) (by rw [List.getElem?_append_right (by simp)]; simp)
        (repeat first|refine zC ?_|refine zb ?_|refine zk ?_)
        refine r_seq ?_
        refine r_seq ?_
        refine r_mix (fun W' => Kp [] W W') [(0, false), (1, false), (2, false), (3, false), (4, false), (5, false), (6, false), (7, false), (8, false), (9, false)] follows_mixed (by kernel_rfl) (by kernel_rfl) (by kernel_rfl) ((Sm.drew _).kp _) ?_
        have kd := (Sm.drew W).kp []
        generalize ({ W with drawn := W.drawn + 1 } : World) = wd at kd ⊢
        (repeat refine xo rfl rfl (by first|exact trivial|(simp only[AllP];omega)) ?_)
        refine x_load (b := bg) (off := i) (v := S x) rfl (by exact ptr_eq (by omega)) (fun W' h' => cg W' h') rfl rfl rfl rfl ?_
        (repeat refine xo rfl rfl trivial ?_)
        refine x_load (b := b5) (off := 5) (v := .slice (some ⟨bn, offn, none⟩) s.names.length s.nc) rfl rfl (fun W' h' => Blk.cell (h'.blk (by simp) hBW) (by show (stC s)[5]? = _; unfold stC; rw [hna]; rfl)) rfl rfl rfl rfl ?_
        (repeat refine xo rfl rfl (by first|exact trivial|(simp only[AllP];omega)) ?_)
        refine x_load (b := bn) (off := offn + i) (v := S x) rfl rfl (fun W' h' => cn W' h') rfl rfl rfl rfl ?_
        (repeat first|refine xo rfl rfl trivial ?_|refine xn ?_)
        refine r_ifn rfl (fun hbad => ?_) (fun _ => ?_)
        · exact absurd rfl hbad
        have hOd := hO.kp kd (by simp)
        obtain ⟨b', L1, hb', hL1, hi1, hw1⟩ := OwnS.wr hOd (i := i) (by omega)
        cases hb'
        (repeat first|refine zg ?_|refine zo rfl rfl (by first|exact trivial|(simp only[AllP];omega)) ?_|refine zk ?_)
        refine o_store (b := bg) (off := i) (v := S [111, 116, 104, 101, 114]) (by exact ptr_eq (by omega)) hL1 hi1 rfl rfl rfl rfl rfl rfl ?_
        intro W2 hu2
        have hO2 := hw1 _ W2 hu2
        have hset : (List.replicate i (S [111, 116, 104, 101, 114]) ++ ((x :: s.names.drop (i + 1)).map S ++ [S [77, 65, 82, 75]])).set i (S [111, 116, 104, 101, 114]) = List.replicate (i + 1) (S [111, 116, 104, 101, 114]) ++ ((s.names.drop (i + 1)).map S ++ [S [77, 65, 82, 75]]) := by
          rw [List.set_append_right _ _ (by simp), List.length_replicate, Nat.sub_self, List.map_cons, List.cons_append, List.set_cons_zero, List.replicate_succ', List.append_assoc]; rfl
        rw [hset] at hO2
        (repeat first|refine zg ?_|refine zo rfl rfl (by first|exact trivial|(simp only[AllP];omega)) ?_|refine zn ?_)
        exact ⟨i + 1, rfl, ⟨by omega, hO2, (kW.trans (kd.mono (by simp))).trans (hu2.kp [bg] (.inl (by simp)))⟩, by omega⟩
      · have hWr : DS w0 W g := h8.frame kW (fun j b hb => by have := wlt j b hb; simp; omega)
        have hTW : TabO W (.pointer a1) f1 r := (hT6.kp h67 (by simp)).kp kW (fun b hb => by have := hf1 b hb; have := ho5.lt bg (by simp [blkOf]); simp; omega)
        have hRW : TabR W (.pointer a2) f2 r := hT7.kp kW (fun b hb => by have := hf2 b hb; have := ho5.lt bg (by simp [blkOf]); simp; omega)
        (repeat first|refine zA ?_|refine zg ?_|refine zo rfl rfl (by first|exact trivial|(simp only[AllP];omega)) ?_|refine ze rfl ?_)
        refine o_store (b := g.W) (off := n) (v := .pointer a1) (by exact ptr_eq (by omega)) hWr.hdr (by simp; omega) rfl rfl rfl rfl rfl rfl ?_
        intro w10 hu10
        (repeat first|refine zg ?_|refine zo rfl rfl (by first|exact trivial|(simp only[AllP];omega)) ?_|refine zn ?_)
        refine o_store (b := g.W) (off := 2 + n) (v := .pointer a2) (by show Value.pointer (some ⟨g.W, 0 + (1 + 1) + (n : Int).toNat, none⟩) = _; rw [show 0 + (1 + 1) + (n : Int).toNat = 2 + n by omega]) hu10.blk (by rw [List.length_set]; simp; omega) rfl rfl rfl rfl rfl rfl ?_
        intro w11 hu11
        (repeat first|refine zA ?_|refine zg ?_|refine zo rfl rfl trivial ?_|refine zn ?_|refine zr ?_)
        have hsW := kW.size
        have k11 : Kp [g.W] W w11 := (hu10.kp [g.W] (.inl (by simp))).trans (hu11.kp [g.W] (.inl (by simp)))
        refine ⟨_, rfl, rfl, k0W.since k11 (by simp; exact h.low .d g.W (by simp [DG.F])), ?_⟩
        exact put_pair hn hWr heq (o := r) hTW hRW
          (fun b hb => ⟨by have := hf1 b hb; omega, by have := hf1 b hb; omega, fun j hm => by have := hf1 b hb; have := wlt j b hm; omega⟩)
          (fun b hb => ⟨by have := hf2 b hb; omega, by have := hf2 b hb; omega, fun j hm => by have := hf2 b hb; have := wlt j b hm; omega, fun hm => by have := hf2 b hb; have := hf1 b hm; omega⟩)
          (fun l' hl' => hnd l' x (by rw [hl'])) hu10 hu11
end Go.Vc
