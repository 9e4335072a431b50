/- Query: Text. -/
import Derived.Test.YtkgngbpkiklckaaGreatDoorQClQAlike39
import Derived.Test.YtkgngbpkiklckaaGreatDoorQClQAlike20
import Derived.Test.YtkgngbpkiklckaaGreatDoorQClQAlike10
import Derived.Test.YtkgngbpkiklckaaGreatDoorQClQAlike31
namespace Go.Vc
open Go Go.Proofs
set_option maxRecDepth 10000
variable {w : World}
theorem good_rows : ∀ t : QT, goodT t → ∀ x ∈ t.rows, x.num ≤ 9223372036854775807 ∧ x.name.length ≤ 9223372036854775806
  | .n0 op num name, hg, x, hx => by
    simp [QT.rows] at hx
    subst hx
    rcases hg with ⟨_, h1, h2, rfl⟩ | ⟨_, rfl, h2⟩ | ⟨_, rfl, rfl⟩
    · exact ⟨h2, by simp⟩
    · unfold qName at h2
      simp only [Bool.and_eq_true, decide_eq_true_eq] at h2
      exact ⟨by show (0 : Int) ≤ _; omega, by have := h2.1.1.1.1.2; show name.length ≤ _; omega⟩
    · exact ⟨by show (0 : Int) ≤ _; omega, by simp⟩
  | .n1 op num name a, hg, x, hx => by
    simp only [QT.rows, List.mem_cons] at hx
    rcases hx with rfl | hx
    · obtain ⟨rfl, _, ⟨_, rfl⟩ | ⟨_, h2⟩⟩ := hg
      · exact ⟨by show (0 : Int) ≤ _; omega, by simp⟩
      · unfold qName at h2
        simp only [Bool.and_eq_true, decide_eq_true_eq] at h2
        exact ⟨by show (0 : Int) ≤ _; omega, by have := h2.1.1.1.1.2; show name.length ≤ _; omega⟩
    · exact good_rows a hg.2.1 x hx
  | .n2 op num name a b, hg, x, hx => by
    simp only [QT.rows, List.mem_cons, List.mem_append] at hx
    rcases hx with rfl | hx | hx
    · obtain ⟨rfl, _, _, rfl, _⟩ := hg
      exact ⟨by show (0 : Int) ≤ _; omega, by simp⟩
    · exact good_rows a hg.2.1 x hx
    · exact good_rows b hg.2.2.1 x hx
/-- what was read, as a row that is lent -/
theorem rows_of {t : QT} {txt : List UInt8} {ad : Option Addr} {cap : Nat} (hp : parseM txt = .ok t) (hl : txt.length ≤ 4096) (hO : OwnS w 81 4 ad t.size cap (t.rows.flatMap qC)) : Rows w ad cap t.rows := by
  obtain ⟨h1, h2, h3⟩ := parse_good hp
  have hc : cap ≤ maxLen := by
    obtain ⟨_, h⟩ := hO
    cases ad with
    | none => obtain ⟨_, h⟩ := h; rw [h]; exact Nat.zero_le _
    | some a => obtain ⟨_, _, _, h, _⟩ := h; exact h
  simp only [maxLen] at hc
  have hcap := hO.le_cap
  exact ⟨hO.readN, by rw [QT.rows_len]; exact hcap, by omega, by rw [QT.rows_len]; omega, fun x hx => (good_rows t h1 x hx).2, fun x hx => (good_rows t h1 x hx).1⟩
theorem parse_len {txt : List UInt8} {t : QT} (h : parseM txt = .ok t) : txt.length ≤ 4096 := by
  unfold parseM at h
  split at h
  · cases h
  · omega
/-- P30.5 as the program has it -/
noncomputable def textM (txt : List UInt8) (s : Shp) (E : List Ev) (fuel : Int) : Rep × Int × Int :=
  match parseM txt with
  | .error (c, i) => (rep0, c, i)
  | .ok t => if (askM t.rows s E fuel).2 = 0 then ((askM t.rows s E fuel).1, 0, 0) else (rep0, (askM t.rows s E fuel).2, 0)
set_option maxHeartbeats 12800000 in
theorem Text_ret {pad ead : Option Addr} {pcap ecap : Nat} {s : Shp} {E : List Ev} {fuel : Int} (hA : AscW w) (txt : List UInt8) (hmax : txt.length ≤ 9223372036854775806) (hpa : ReadS w pad (s.pa.map I)) (hpl : s.pa.length ≤ 1048576) (he : ReadS w ead (evsC E)) (hel : E.length ≤ 1048576) :
    Ret Tryz.prog 22 [S txt, .agg ⟨shC s pad pcap⟩, .slice ead E.length ecap, I fuel] w (fun v w' => v = .tuple #[.agg ⟨repC (textM txt s E fuel).1⟩, .agg ⟨[I (textM txt s E fuel).2.1, I (textM txt s E fuel).2.2]⟩] ∧ Kp [] w w') := by
  refine enterC Tryz.call22 Tryz.func22 rfl rfl rfl rfl ?_
  (repeat first|refine zA ?_|refine zg ?_)
  refine o_box rfl rfl rfl ?_
  intro b5 w1 e5 hu1
  have k1 : Kp [] w w1 := hu1.kp [] (.inr (by omega))
  refine o_alloc rfl rfl rfl rfl ?_
  intro b8 w2 e8 hu2
  have l1 := hu1.lt
  have k2 : Kp [] w1 w2 := hu2.kp [] (.inr (by omega))
  refine o_alloc rfl rfl rfl rfl ?_
  intro b9 w3 e9 hu3
  have l2 := hu2.lt
  have k3 : Kp [] w2 w3 := hu3.kp [] (.inr (by omega))
  have h5 : Blk w3 b5 (shC s pad pcap) 27 := (k2.trans k3).blk (by simp) hu1.blk
  have h8 : Blk w3 b8 (repC rep0) 45 := k3.blk (by simp) hu2.blk
  have h9 : Blk w3 b9 [I 0, I 0] 38 := hu3.blk
  have l3 := h9.lt
  have k03 := (k1.trans k2).trans k3
  have y1 := k1.size
  have y2 := k2.size
  have n8 : w.heap.size ≤ b8 := by omega
  have n9 : w.heap.size ≤ b9 := by omega
  have h89 : b8 ≠ b9 := by omega
  clear hu1 hu2 hu3
  have fin : ∀ {e : Env} {W : World} {r : Rep} {x y : Int}, e 8 = ptr b8 → e 9 = ptr b9 → Blk W b8 (repC r) 45 → Blk W b9 [I x, I y] 38 → resC Tryz.prog e W [.cell 8 45, .cell 9 38] [.agg ⟨repC r⟩, .agg ⟨[I x, I y]⟩] := fun h1 h2 h3 h4 =>
    ⟨⟨_, h1, run_loadB h3 rfl rfl rfl rfl⟩, ⟨_, h2, run_loadB h4 rfl rfl rfl rfl⟩, trivial⟩
  have htm : textM txt s E fuel = match parseM txt with
    | .error (c, i) => (rep0, c, i)
    | .ok t => if (askM t.rows s E fuel).2 = 0 then ((askM t.rows s E fuel).1, 0, 0) else (rep0, (askM t.rows s E fuel).2, 0) := rfl
  (repeat first|refine zA ?_|refine zg ?_|refine zo rfl rfl trivial ?_|refine zn ?_)
  refine o_call (Parse_ret (hA.kp k03 (by simp)) txt hmax) rfl rfl rfl ?_
  rintro v w4 ⟨hv, k4⟩
  have k04 := k03.trans k4
  have y4 := k4.size
  have h54 := k4.blk (by simp) h5
  have h84 := k4.blk (by simp) h8
  have h94 := k4.blk (by simp) h9
  have lay : ∃ vq vf : Value, (∃ ad n cap, vq = qV ad n cap) ∧ (∃ c i : Int, vf = .agg ⟨[I c, I i]⟩ ∧ (match parseM txt with | .ok t => c = 0 ∧ i = 0 ∧ ∃ ad cap, vq = qV ad t.size cap ∧ OwnS w4 81 4 ad t.size cap (t.rows.flatMap qC) | .error (c', i') => c = c' ∧ i = i')) ∧ v = .tuple #[vq, vf] := by
    unfold ParseV at hv
    cases hp : parseM txt with
    | error e =>
      obtain ⟨c, i⟩ := e
      rw [hp] at hv
      exact ⟨_, _, ⟨none, 0, 0, rfl⟩, ⟨c, i, rfl, rfl, rfl⟩, hv⟩
    | ok t =>
      rw [hp] at hv
      obtain ⟨ad, cap, hv, hO, _⟩ := hv
      exact ⟨_, _, ⟨ad, _, cap, rfl⟩, ⟨0, 0, rfl, rfl, rfl, ad, cap, rfl, hO⟩, hv⟩
  obtain ⟨_, _, ⟨qad, qn, qcap, rfl⟩, ⟨c, i, rfl, hpm⟩, rfl⟩ := lay
  (repeat refine zo rfl rfl trivial ?_)
  refine o_alloc rfl rfl rfl rfl ?_
  intro b10 w5 e10 hu5
  refine o_alloc rfl rfl rfl rfl ?_
  intro b11 w6 e11 hu6
  have l5 := hu5.lt
  have n1011 : b10 ≠ b11 := by omega
  have k5 : Kp [] w4 w5 := hu5.kp [] (.inr (by omega))
  have k6 : Kp [] w4 w6 := k5.trans (hu6.kp [] (.inr (by omega)))
  refine o_storeA (b := b10) (cs := [.slice qad qn qcap]) rfl (hu6.kept n1011 hu5.blk) (Nat.le_refl _) rfl (by simp [Value.oneCell']) rfl rfl rfl rfl ?_
  intro w7 hu7
  refine o_storeA (b := b11) (cs := [I c, I i]) rfl (hu7.kept n1011.symm hu6.blk) (Nat.le_refl _) rfl (by simp [Value.oneCell']) rfl rfl rfl rfl ?_
  intro w8 hu8
  have y5 := k5.size
  have h10 : Blk w8 b10 [.slice qad qn qcap] 24 := hu8.kept n1011 hu7.blk
  have h11 : Blk w8 b11 [I c, I i] 38 := hu8.blk
  have k48 : Kp [] w4 w8 := (k6.since (hu7.kp [b10] (.inl (by simp))) (by simp; omega)).since (hu8.kp [b11] (.inl (by simp))) (by simp; omega)
  have k08 := k04.trans k48
  have h58 := k48.blk (by simp) h54
  have h88 := k48.blk (by simp) h84
  have h98 := k48.blk (by simp) h94
  have m8 := h84.lt
  have m9 := h94.lt
  clear hu5 hu6 hu7 hu8
  (repeat first|refine zA ?_|refine zB ?_|refine zg ?_|refine zo rfl rfl trivial ?_|refine zn ?_|refine o_load rfl h11 rfl rfl rfl rfl rfl ?_)
  cases hp : parseM txt with
  | error e =>
    obtain ⟨c', i'⟩ := e
    rw [hp] at hpm htm
    obtain ⟨rfl, rfl⟩ := hpm
    have hc := parse_err hp
    rw [htm]
    refine r_ifn rfl (fun _ => ?_) (fun h => absurd h hc)
    refine r_seq ?_
    refine r_cut (α := Unit) [8, 9] (fun _ => [ptr b8, ptr b9]) (fun _ W => Blk W b8 (repC rep0) 45 ∧ Blk W b9 [I c, I i] 38 ∧ Kp [b8, b9] w8 W) ?_ ?_
    · refine r_any (fun w' => Blk w' b11 [I c, I i] 38) 4 follows_mixed (by kernel_rfl) ?_
      have sd := Sm.drew w8
      generalize ({ w8 with drawn := w8.drawn + 1 } : World) = wd at sd ⊢
      have g11 := sd.blk h11
      have g8 := sd.blk h88
      have g9 := sd.blk h98
      have o1 : b11 ≠ b8 := by omega
      have o2 : b11 ≠ b9 := by omega
      refine t_seg [0, 1] 2 (by kernel_rfl) (by kernel_rfl) (by kernel_rfl) g11 ?_
      try dsimp only [List.map_cons, List.map_nil]
      refine x_build (repC rep0) rfl rfl rfl rfl rfl rfl rfl rfl ?_
      refine x_loadA (vs := [I c, I i]) rfl rfl (fun w' h' j v hv => by rw [Nat.zero_add]; exact h'.cell hv) rfl rfl rfl rfl rfl rfl ?_
      (repeat refine xn ?_)
      refine t_one 2 (by kernel_rfl) rfl ?_
      refine o_storeA (b := b8) (cs := repC rep0) rfl g8 (Nat.le_refl _) rfl (by simp [Value.oneCell', repC]) rfl rfl rfl rfl ?_
      intro w9 hu9
      refine o_nil ⟨.inr (hu9.kept o1 g11), ?_⟩
      refine t_one 3 (by kernel_rfl) rfl ?_
      refine o_storeA (b := b9) (cs := [I c, I i]) rfl (hu9.kept h89.symm g9) (Nat.le_refl _) rfl (by simp [Value.oneCell']) rfl rfl rfl rfl ?_
      intro w10 hu10
      refine o_nil ⟨.inl (by kernel_rfl), t_end (by kernel_rfl) ?_⟩
      exact ⟨(), rfl, hu10.kept h89 hu9.blk, hu10.blk, ((sd.kp _).trans (hu9.kp _ (.inl (by simp)))).trans (hu10.kp _ (.inl (by simp)))⟩
    rintro _ e9 w9 ⟨j8, j9, k9⟩
    (repeat refine zr ?_)
    exact ⟨_, fin rfl rfl j8 j9, rfl, k08.since k9 (by simp; omega)⟩
  | ok t =>
    rw [hp] at hpm htm
    obtain ⟨rfl, rfl, ad, cap, hq, hO⟩ := hpm
    simp only [Value.agg.injEq, Array.mk.injEq, List.cons.injEq, Value.slice.injEq, and_true] at hq
    obtain ⟨rfl, rfl, rfl⟩ := hq
    have hRows := (rows_of hp (parse_len hp) hO).kp k48 (by simp)
    have hsz : t.size = t.rows.length := (QT.rows_len t).symm
    have htm : textM txt s E fuel = if (askM t.rows s E fuel).2 = 0 then ((askM t.rows s E fuel).1, 0, 0) else (rep0, (askM t.rows s E fuel).2, 0) := htm
    refine r_no rfl (by simp) ?_
    (repeat first|refine zA ?_|refine zg ?_|refine zk ?_)
    refine o_loadA (vs := [.slice qad t.size qcap]) rfl (fun j v hv => by rw [Nat.zero_add]; exact h10.cell hv) rfl rfl rfl rfl rfl rfl ?_
    refine o_loadA (vs := shC s pad pcap) rfl (fun j v hv => by rw [Nat.zero_add]; exact h58.cell hv) rfl rfl rfl rfl rfl rfl ?_
    (repeat refine zo rfl rfl trivial ?_)
    rw [hsz]
    refine o_call (Ask_ret (hA.kp k08 (by simp)) hRows (hpa.kp k08 (by simp)) hpl (he.kp k08 (by simp)) hel) rfl rfl rfl ?_
    generalize askM t.rows s E fuel = r at htm ⊢
    obtain ⟨rr, re⟩ := r
    dsimp only at htm ⊢
    rintro v w9 ⟨rfl, k9⟩
    have k89 := k9
    have h89' := k9.blk (by simp) h88
    have h99 := k9.blk (by simp) h98
    have k09 := k08.trans k9
    (repeat refine zo rfl rfl trivial ?_)
    refine o_alloc rfl rfl rfl rfl ?_
    intro b12 w10 e12 hu10
    have k10 : Kp [] w9 w10 := hu10.kp [] (.inr (by omega))
    have l10 := hu10.lt
    have y9 := k9.size
    refine o_storeA (b := b12) (cs := repC rr) rfl hu10.blk (Nat.le_refl _) rfl (by simp [Value.oneCell', repC]) rfl rfl rfl rfl ?_
    intro w11 hu11
    have k911 : Kp [] w9 w11 := k10.since (hu11.kp [b12] (.inl (by simp))) (by simp; omega)
    have h12 : Blk w11 b12 (repC rr) 45 := hu11.blk
    have h811 := k911.blk (by simp) h89'
    have h911 := k911.blk (by simp) h99
    have k011 := k09.trans k911
    clear hu10 hu11
    rw [htm]
    (repeat first|refine zA ?_|refine zB ?_|refine zg ?_|refine zo rfl rfl trivial ?_|refine zn ?_)
    refine r_ifn rfl (fun hne => ?_) (fun heq => ?_)
    · rw [if_neg hne]
      (repeat first|refine zA ?_|refine zg ?_)
      refine o_build (repC rep0) rfl rfl rfl rfl rfl rfl rfl ?_
      (repeat refine zo rfl rfl trivial ?_)
      refine o_build [I re, I 0] rfl rfl rfl rfl rfl rfl rfl ?_
      refine o_storeA (b := b8) (cs := repC rep0) rfl h811 (Nat.le_refl _) rfl (by simp [Value.oneCell', repC]) rfl rfl rfl rfl ?_
      intro w12 hu12
      refine o_storeA (b := b9) (cs := [I re, I 0]) rfl (hu12.kept h89.symm h911) (Nat.le_refl _) rfl (by simp [Value.oneCell']) rfl rfl rfl rfl ?_
      intro w13 hu13
      (repeat first|refine zn ?_|refine zr ?_)
      exact ⟨_, fin rfl rfl (hu13.kept h89 hu12.blk) hu13.blk, rfl, (k011.since (hu12.kp [b8] (.inl (by simp))) (by simpa using n8)).since (hu13.kp [b9] (.inl (by simp))) (by simpa using n9)⟩
    · rw [if_pos heq]
      (repeat first|refine zA ?_|refine zg ?_|refine zk ?_)
      refine o_loadA (vs := repC rr) rfl (fun j v hv => by rw [Nat.zero_add]; exact h12.cell hv) rfl rfl rfl rfl rfl rfl ?_
      refine o_build [I 0, I 0] rfl rfl rfl rfl rfl rfl rfl ?_
      refine o_storeA (b := b8) (cs := repC rr) rfl h811 (Nat.le_refl _) rfl (by simp [Value.oneCell', repC]) rfl rfl rfl rfl ?_
      intro w12 hu12
      refine o_storeA (b := b9) (cs := [I 0, I 0]) rfl (hu12.kept h89.symm h911) (Nat.le_refl _) rfl (by simp [Value.oneCell']) rfl rfl rfl rfl ?_
      intro w13 hu13
      (repeat first|refine zn ?_|refine zr ?_)
      exact ⟨_, fin rfl rfl (hu13.kept h89 hu12.blk) hu13.blk, rfl, (k011.since (hu12.kp [b8] (.inl (by simp))) (by simpa using n8)).since (hu13.kp [b9] (.inl (by simp))) (by simpa using n9)⟩
end Go.Vc
/- Query: the questions of works, in plain Lean (no program in sight). -/
namespace Go.Vc
open Go
set_option maxRecDepth 20000
def txt1 : List UInt8 := [49, 43, 50, 42, 51, 61, 55, 32, 97, 110, 100, 32, 110, 111, 116, 40, 114, 101, 97, 100, 61, 49, 41]
def say1 : List UInt8 := [40, 40, 49, 32, 43, 32, 40, 50, 32, 42, 32, 51, 41, 41, 32, 61, 32, 55, 41, 32, 97, 110, 100, 32, 40, 110, 111, 116, 32, 40, 49, 32, 61, 32, 49, 41, 41]
def txt2 : List UInt8 := [99, 111, 117, 110, 116, 32, 101, 58, 32, 107, 105, 110, 100, 40, 101, 41, 32, 61, 32, 114, 101, 97, 100]
def txt3 : List UInt8 := [49, 32, 43]
def saysB (txt say : List UInt8) : Bool := match parseM txt with | .ok t => (match printM t.rows with | .ok s => decide (s = say) | .error _ => false) | .error _ => false
theorem saysB_iff {txt say : List UInt8} (h : saysB txt say = true) : ∃ t, parseM txt = .ok t ∧ printM t.rows = .ok say := by
  unfold saysB at h
  split at h
  · next t ht =>
    split at h
    · next s hs => exact ⟨t, ht, by rw [hs, of_decide_eq_true h]⟩
    · cases h
  · cases h
theorem try1 : saysB txt1 say1 = true := by decide +kernel
def qt2 : QT := .n1 24 0 [101] (.n2 13 0 [] (.n1 9 0 [] (.n0 2 0 [101])) (.n0 1 1 []))
theorem try2 : parseM txt2 = .ok qt2 := by rfl
theorem try2' : lookedM qt2.rows = .ok qt2 := by rfl
theorem try3 : parseM txt3 = .error (301, 3) := by rfl
end Go.Vc
/- Equality of structs whose fields are ints, bools and strings (printed by tool/mkSm.py). -/
namespace Go.Vc
open Go
variable {P : Program} {n : Nat} {a : Act} {e : Env} {w : World} {K : EPost} {X : List (Nat × EPost)} {R : EPost} {all : List Oper} {G : List Nat} {ro : Ro} {Fl : World → Prop}
/-- a value of a field's type, of the kinds that are told here -/
def okVal (P : Program) (f : Field) : Value → Bool
  | .int .i64 _ => match P.underlying f.type with | some (.int .i64) => true | _ => false
  | .bool _ => match P.underlying f.type with | some .bool => true | _ => false
  | .string _ => match P.underlying f.type with | some .string => true | _ => false
  | _ => false
def okMix (P : Program) : List Field → Nat → List Value → Bool
  | [], _, [] => true
  | f :: r, k, v :: vs => (f.name != "_") && Nat.beq f.offset k && okVal P f v && okMix P r (k + 1) vs
  | _, _, _ => false
def eqVal : Value → Value → Bool
  | .int _ x, .int _ y => x == y
  | .bool x, .bool y => x == y
  | .string x, .string y => x.toList == y.toList
  | _, _ => false
def eqMix : List Value → List Value → Bool
  | [], [] => true
  | x :: r, y :: q => if eqVal x y = true then eqMix r q else false
  | _, _ => false
theorem okVal_agg {f : Field} {v : Value} (h : okVal P f v = true) (s : World) : (isAgg f.type).run P s = .ok false s := by
  unfold okVal at h
  split at h <;> first
    | (split at h <;> first | exact isAgg_run (by assumption) rfl | cases h)
    | cases h
theorem okVal_eq {f : Field} {u v : Value} (d : Nat) (h : okVal P f u = true) (h' : okVal P f v = true) : (Op.equalIn (d + 1) f.type u v).run P w = .ok (eqVal u v) w := by
  unfold okVal at h h'
  split at h <;> split at h' <;> first
    | (cases h'; done)
    | (cases h; done)
    | (split at h <;> split at h' <;> first
        | (cases h; done)
        | (cases h'; done)
        | (rename_i e1 e2; rw [e1] at e2; cases e2; done)
        | (rename_i e1 _ e2; rw [e1] at e2; cases e2; done)
        | exact run_equalIn_int w d _ _ _ _ _ (by assumption)
        | exact run_equalIn_bool' w d _ _ _ (by assumption)
        | exact run_equalIn_string w d _ _ _ (by assumption)
        | simp_all)
theorem run_eqFields_mix (d : Nat) (xs ys : Array Value) : ∀ (fs : List Field) (k : Nat) (us bs : List Value), okMix P fs k us = true → okMix P fs k bs = true → (∀ j v, us[j]? = some v → xs[k + j]? = some v) → (∀ j v, bs[j]? = some v → ys[k + j]? = some v) →
    (Op.eqFields (d + 1) xs ys fs).run P w = .ok (eqMix us bs) w
  | [], k, [], [], _, _, _, _ => by simp [Op.eqFields, eqMix]
  | [], k, _ :: _, _, h, _, _, _ => by simp [okMix] at h
  | [], k, [], _ :: _, _, h, _, _ => by simp [okMix] at h
  | f :: r, k, [], _, h, _, _, _ => by simp [okMix] at h
  | f :: r, k, _ :: _, [], _, h, _, _ => by simp [okMix] at h
  | f :: r, k, x :: us, y :: bs, h, h', hx, hy => by
    simp only [okMix, Bool.and_eq_true, bne_iff_ne, ne_eq] at h h'
    obtain ⟨⟨⟨h1, h2⟩, h3⟩, h4⟩ := h
    obtain ⟨⟨⟨_, _⟩, g3⟩, g4⟩ := h'
    have h2 := Nat.eq_of_beq_eq_true h2
    have ih := run_eqFields_mix d xs ys r (k + 1) us bs h4 g4 (fun j v hv => by
      have := hx (j + 1) v (by simpa using hv)
      rwa [show k + (j + 1) = k + 1 + j by omega] at this) (fun j v hv => by
      have := hy (j + 1) v (by simpa using hv)
      rwa [show k + (j + 1) = k + 1 + j by omega] at this)
    have hx0 := hx 0 x rfl
    have hy0 := hy 0 y rfl
    rw [Nat.add_zero] at hx0 hy0
    have p1 : (part f.type xs f.offset).run P w = .ok x w := by
      rw [h2]; simp [part, okVal_agg h3, hx0]
    have p2 : (part f.type ys f.offset).run P w = .ok y w := by
      rw [h2]; simp [part, okVal_agg g3, hy0]
    simp only [Op.eqFields, Sem.run_bind, Sem.run_ite, if_pos h1, p1, p2, Result.andThen_ok, okVal_eq d h3 g3, eqMix]
    by_cases hxy : eqVal x y = true
    · simp [hxy, ih]
    · simp [hxy]
theorem run_eqX {t : TypeId} {us bs : List Value} (hu : P.underlying t = some (.struct (P.fieldsOf t))) (hp : P.stoodInHeld t = false) (ha : okMix P (P.fieldsOf t).toList 0 us = true) (hb : okMix P (P.fieldsOf t).toList 0 bs = true) :
    (Op.equalIn 10000 t (.agg ⟨us⟩) (.agg ⟨bs⟩)).run P w = .ok (eqMix us bs) w := by
  rw [run_equalIn_agg w 9999 t _ _ hu hp]
  exact run_eqFields_mix 9998 _ _ _ 0 us bs ha hb (fun j v hv => by simp [hv]) (fun j v hv => by simp [hv])
section
variable {dst : Option Tmp} {ty ty2 : TypeId} {pos : String} {after : Array Edge} {g : Option (Nat × Bool)} {l : List Oper} {t : TypeId} {x y : Operand}
theorem exec_eqX {us bs : List Value} (hx : ev e x = .agg ⟨us⟩) (hy : ev e y = .agg ⟨bs⟩) (hu : P.underlying t = some (.struct (P.fieldsOf t))) (hp : P.stoodInHeld t = false) (hg : P.eqGuardType P.depth t = false) (ha : okMix P (P.fieldsOf t).toList 0 us = true) (hb : okMix P (P.fieldsOf t).toList 0 bs = true) :
    (execOp (ev e) ⟨dst, .binOp .eql t x y ty2, ty, pos, after, g⟩).run P w = .ok (.value (.bool (eqMix us bs))) w := by
  simp only [execOp, Sem.run_bind, hx, hy, run_eqGuard_agg w .eql t x y _ _ hg, Result.andThen_ok, run_eql_struct, run_eqX hu hp ha hb, Sem.run_pure]
theorem o_eqX (us bs : List Value) (hx : ev e x = .agg ⟨us⟩) (hy : ev e y = .agg ⟨bs⟩) (hu : P.underlying t = some (.struct (P.fieldsOf t))) (hp : P.stoodInHeld t = false) (hg : P.eqGuardType P.depth t = false) (ha : okMix P (P.fieldsOf t).toList 0 us = true) (hb : okMix P (P.fieldsOf t).toList 0 bs = true) (hd : dOk n dst = true) (hm : may all G e g = some true)
    (k : Ops ro P n all G K l (put e dst (.bool (eqMix us bs))) w) : Ops ro P n all G K (⟨dst, .binOp .eql t x y ty2, ty, pos, after, g⟩ :: l) e w :=
  ops_does hd hm (exec_eqX hx hy hu hp hg ha hb) k
end
end Go.Vc
/- Query: works. -/
namespace Go.Vc
open Go Go.Proofs
set_option maxRecDepth 20000
variable {w : World}
theorem num30_ret (n : Int) : Ret Tryz.prog 13 [I n] w (fun v w' => v = I n ∧ w' = w) := by
  refine enter Tryz.call13 Tryz.func13 rfl rfl rfl rfl ?_
  (repeat first|refine zA ?_|refine zg ?_|refine zo rfl rfl trivial ?_|refine zn ?_|refine zr ?_)
  exact ⟨_, rfl, rfl, rfl⟩
/-! ### What is asked -/
def shW : Shp := ⟨1, 1, 0, 0, []⟩
def shW' : Shp := ⟨1, 0, 0, 0, []⟩
def evW : List Ev := [⟨1, 0, 0⟩, ⟨2, 0, 0⟩]
theorem okW : okTo shW evW evW.length := by
  intro j x hj he
  match j, hj with
  | 0, _ => simp [evW] at he; subst he; decide
  | 1, _ => simp [evW] at he; subst he; decide
theorem askW {R : List Int} : evq (qwO evW R) qt2 (fun _ => 0) = (1, 9) := by rfl
theorem textW : textM txt2 shW evW 100 = (⟨1, 1, false, 9⟩, 0, 0) := by
  have h : askM qt2.rows shW evW 100 = (⟨1, 1, false, 9⟩, 0) := by
    unfold askM
    rw [try2']
    show (if orderM shW evW = 0 then _ else _) = _
    rw [if_pos (orderM_ok rfl (by decide) okW), askW]
    rfl
  unfold textM
  rw [try2]
  show (if (askM qt2.rows shW evW 100).2 = 0 then ((askM qt2.rows shW evW 100).1, 0, 0) else _) = _
  rw [h]
  rfl
theorem textW' : textM txt3 shW' [] 100 = (rep0, 301, 3) := by
  unfold textM
  rw [try3]
set_option maxHeartbeats 6400000 in
theorem works_ret (hA : AscW w) (hP : PowQ w) : Ret Tryz.prog 10 [] w (fun v w' => v = .bool true ∧ Kp [] w w') := by
  obtain ⟨t, ht, hs⟩ := saysB_iff try1
  refine enter Tryz.call10 Tryz.func10 rfl rfl rfl rfl ?_
  (repeat first|refine zA ?_|refine zg ?_|refine zo rfl rfl trivial ?_|refine zn ?_)
  refine o_call (Parse_ret hA txt1 (by decide)) rfl rfl rfl ?_
  rintro v w1 ⟨hv, k1⟩
  rw [ht] at hv
  obtain ⟨ad, cap, rfl, hO, _⟩ := hv
  have hRows := rows_of ht (by decide) hO
  have hsz : t.size = t.rows.length := (QT.rows_len t).symm
  (repeat refine zo rfl rfl trivial ?_)
  refine o_alloc rfl rfl rfl rfl ?_
  intro b1 w2 e1 hu1
  refine o_alloc rfl rfl rfl rfl ?_
  intro b2 w3 e2 hu2
  have l1 := hu1.lt
  have n12 : b1 ≠ b2 := by omega
  refine o_storeA (b := b1) (cs := [.slice ad t.size cap]) rfl (hu2.kept n12 hu1.blk) (Nat.le_refl _) rfl (by simp [Value.oneCell']) rfl rfl rfl rfl ?_
  intro w4 hu4
  refine o_storeA (b := b2) (cs := [I 0, I 0]) rfl (hu4.kept n12.symm hu2.blk) (Nat.le_refl _) rfl (by simp [Value.oneCell']) rfl rfl rfl rfl ?_
  intro w5 hu5
  have g1 : Blk w5 b1 [.slice ad t.size cap] 24 := hu5.kept n12 hu4.blk
  have g2 : Blk w5 b2 [I 0, I 0] 38 := hu5.blk
  have k5 : Kp [] w1 w5 := ((((hu1.kp [] (.inr (by omega)))).trans (hu2.kp [] (.inr (by omega)))).since (hu4.kp [b1] (.inl (by simp))) (by simp; omega)).since (hu5.kp [b2] (.inl (by simp))) (by simp; omega)
  clear hu1 hu2 hu4 hu5
  (repeat first|refine zA ?_|refine zg ?_|refine zn ?_)
  refine o_loadA (vs := [.slice ad t.size cap]) rfl (fun j v hv => by rw [Nat.zero_add]; exact g1.cell hv) rfl rfl rfl rfl rfl rfl ?_
  rw [hsz]
  refine o_call (Print_ret (hA.kp (k1.trans k5) (by simp)) (hP.kp (k1.trans k5) (by simp)) (hRows.kp k5 (by simp))) rfl rfl rfl ?_
  rintro v w6 ⟨rfl, k6⟩
  have hpv : printV t.rows = (say1, 0) := by unfold printV; rw [hs]
  rw [hpv]
  have k06 := (k1.trans k5).trans k6
  have g26 := k6.blk (by simp) g2
  (repeat first|refine zA ?_|refine zg ?_|refine zo rfl rfl trivial ?_|refine zn ?_)
  refine o_build (shC shW none 0) rfl rfl rfl rfl rfl rfl rfl ?_
  refine o_build [I 1, I 0, I 0] rfl rfl rfl rfl rfl rfl rfl ?_
  refine o_build [I 2, I 0, I 0] rfl rfl rfl rfl rfl rfl rfl ?_
  refine o_buildSliceN (evsC evW) rfl rfl rfl (by kernel_rfl) rfl rfl rfl rfl ?_
  intro be w7 hbe hu7
  have k7 : Kp [] w6 w7 := hu7.kp [] (.inr (by omega))
  have k07 := k06.trans k7
  refine o_call (Text_ret (s := shW) (E := evW) (hA.kp k07 (by simp)) txt2 (by decide) (by simp [ReadS, shW]) (by decide) (ReadS.blk hu7.blk) (by decide)) rfl rfl rfl ?_
  rintro v w8 ⟨rfl, k8⟩
  rw [textW]
  have g28 := k8.blk (by simp) (k7.blk (by simp) g26)
  have k08 := k07.trans k8
  clear hu7
  (repeat refine zo rfl rfl trivial ?_)
  refine o_alloc rfl rfl rfl rfl ?_
  intro b5 w9 e5 hu9
  refine o_alloc rfl rfl rfl rfl ?_
  intro b6 w10 e6 hu10
  have l5 := hu9.lt
  have n56 : b5 ≠ b6 := by omega
  refine o_storeA (b := b5) (cs := repC ⟨1, 1, false, 9⟩) rfl (hu10.kept n56 hu9.blk) (Nat.le_refl _) rfl (by simp [Value.oneCell', repC]) rfl rfl rfl rfl ?_
  intro w11 hu11
  refine o_storeA (b := b6) (cs := [I 0, I 0]) rfl (hu11.kept n56.symm hu10.blk) (Nat.le_refl _) rfl (by simp [Value.oneCell']) rfl rfl rfl rfl ?_
  intro w12 hu12
  have k12 : Kp [] w8 w12 := ((((hu9.kp [] (.inr (by omega)))).trans (hu10.kp [] (.inr (by omega)))).since (hu11.kp [b5] (.inl (by simp))) (by simp; omega)).since (hu12.kp [b6] (.inl (by simp))) (by simp; omega)
  have g5 : Blk w12 b5 (repC ⟨1, 1, false, 9⟩) 45 := hu12.kept n56 hu11.blk
  have g6 : Blk w12 b6 [I 0, I 0] 38 := hu12.blk
  have g212 := k12.blk (by simp) g28
  have k012 := k08.trans k12
  clear hu9 hu10 hu11 hu12
  (repeat first|refine zA ?_|refine zg ?_|refine zn ?_)
  refine o_build (shC shW' none 0) rfl rfl rfl rfl rfl rfl rfl ?_
  refine o_call (Text_ret (s := shW') (E := []) (ead := none) (hA.kp k012 (by simp)) txt3 (by decide) (by simp [ReadS, shW']) (by decide) (by simp [ReadS, evsC]) (by decide)) rfl rfl rfl ?_
  rintro v w13 ⟨rfl, k13⟩
  rw [textW']
  have k013 := k012.trans k13
  have g213 := k13.blk (by simp) g212
  have g513 := k13.blk (by simp) g5
  have g613 := k13.blk (by simp) g6
  (repeat refine zo rfl rfl trivial ?_)
  refine o_alloc rfl rfl rfl rfl ?_
  intro b7 w14 e7 hu14
  refine o_alloc rfl rfl rfl rfl ?_
  intro b8 w15 e8 hu15
  have l7 := hu14.lt
  have n78 : b7 ≠ b8 := by omega
  refine o_storeA (b := b7) (cs := repC rep0) rfl (hu15.kept n78 hu14.blk) (Nat.le_refl _) rfl (by simp [Value.oneCell', repC]) rfl rfl rfl rfl ?_
  intro w16 hu16
  refine o_storeA (b := b8) (cs := [I 301, I 3]) rfl (hu16.kept n78.symm hu15.blk) (Nat.le_refl _) rfl (by simp [Value.oneCell']) rfl rfl rfl rfl ?_
  intro w17 hu17
  have k17 : Kp [] w13 w17 := ((((hu14.kp [] (.inr (by omega)))).trans (hu15.kp [] (.inr (by omega)))).since (hu16.kp [b7] (.inl (by simp))) (by simp; omega)).since (hu17.kp [b8] (.inl (by simp))) (by simp; omega)
  have h2 := k17.blk (by simp) g213
  have h5 := k17.blk (by simp) g513
  have h6 := k17.blk (by simp) g613
  have h8 : Blk w17 b8 [I 301, I 3] 38 := hu17.blk
  have k017 := k013.trans k17
  clear hu14 hu15 hu16 hu17
  (repeat first|refine zA ?_|refine zg ?_|refine zo rfl rfl trivial ?_|refine zn ?_)
  refine o_load rfl h2 rfl rfl rfl rfl rfl ?_
  (repeat first|refine zo rfl rfl trivial ?_|refine zT rfl rfl rfl ?_)
  refine o_call (num30_ret _) rfl rfl rfl ?_
  rintro v w18 ⟨rfl, rfl⟩
  (repeat first|refine zo rfl rfl trivial ?_|refine zT rfl rfl rfl ?_|refine o_load rfl h6 rfl rfl rfl rfl rfl ?_)
  refine o_loadA (vs := repC ⟨1, 1, false, 9⟩) rfl (fun j v hv => by rw [Nat.zero_add]; exact h5.cell hv) rfl rfl rfl rfl rfl rfl ?_
  refine o_build (repC ⟨1, 1, false, 9⟩) rfl rfl rfl rfl rfl rfl rfl ?_
  refine o_eqX (repC ⟨1, 1, false, 9⟩) (repC ⟨1, 1, false, 9⟩) rfl rfl rfl (by kernel_rfl) (by kernel_rfl) (by kernel_rfl) (by kernel_rfl) rfl rfl ?_
  (repeat first|refine zo rfl rfl trivial ?_|refine zT rfl rfl rfl ?_)
  refine o_loadA (vs := [I 301, I 3]) rfl (fun j v hv => by rw [Nat.zero_add]; exact h8.cell hv) rfl rfl rfl rfl rfl rfl ?_
  refine o_build [I 301, I 3] rfl rfl rfl rfl rfl rfl rfl ?_
  refine o_eqS [301, 3] [301, 3] rfl rfl rfl (by kernel_rfl) (by kernel_rfl) (by kernel_rfl) rfl rfl rfl rfl ?_
  (repeat first|refine zo rfl rfl trivial ?_|refine zn ?_|refine zr ?_)
  exact ⟨_, rfl, rfl, k017⟩
end Go.Vc
