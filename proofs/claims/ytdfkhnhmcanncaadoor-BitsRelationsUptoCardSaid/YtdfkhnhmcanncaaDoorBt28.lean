/- bits: the document's relations in memory. -/
import Derived.Test.YtdfkhnhmcanncaaDoorBt27
namespace Go.Vc
open Go Go.Proofs
set_option maxRecDepth 10000
variable {w : World}

/-! ### A row of n lists -/
def lsRow (n : Nat) (As : Nat → Option Addr × Nat) (Ls : Nat → List Nat) : List Value := (List.range n).map fun i => Value.slice (As i).1 (Ls i).length (As i).2
theorem lsRow_len (n : Nat) (As : Nat → Option Addr × Nat) (Ls : Nat → List Nat) : (lsRow n As Ls).length = n := by simp [lsRow]
theorem lsRow_get {n i : Nat} (As : Nat → Option Addr × Nat) (Ls : Nat → List Nat) (h : i < n) : (lsRow n As Ls)[i]? = some (.slice (As i).1 (Ls i).length (As i).2) := by
  unfold lsRow; rw [List.getElem?_map, List.getElem?_range h]; rfl
structure LsAt (w : World) (T : TypeId) (bw n : Nat) (As : Nat → Option Addr × Nat) (Ls : Nat → List Nat) : Prop where
  blk : Blk w bw (lsRow n As Ls) T
  row : ∀ i, i < n → OwnS w 3 1 (As i).1 (Ls i).length (As i).2 ((Ls i).map encI)
  sep : ∀ i j, i < n → j < n → i ≠ j → ∀ b, b ∈ blkOf (As i).1 → b ∉ blkOf (As j).1
def lsBlks (bw n : Nat) (As : Nat → Option Addr × Nat) : List Nat := bw :: (List.range n).flatMap fun i => blkOf (As i).1
theorem mem_lsBlks {bw n : Nat} {As : Nat → Option Addr × Nat} {b : Nat} : b ∈ lsBlks bw n As ↔ b = bw ∨ ∃ i, i < n ∧ b ∈ blkOf (As i).1 := by
  unfold lsBlks
  rw [List.mem_cons, List.mem_flatMap]
  constructor
  · rintro (h | ⟨i, h1, h2⟩)
    · exact .inl h
    · exact .inr ⟨i, by simpa using h1, h2⟩
  · rintro (h | ⟨i, h1, h2⟩)
    · exact .inl h
    · exact .inr ⟨i, by simpa using h1, h2⟩
section
variable {T : TypeId} {bw n : Nat} {As : Nat → Option Addr × Nat} {Ls : Nat → List Nat}
theorem LsAt.typed (h : LsAt w T bw n As Ls) {b : Nat} (hb : b ∈ lsBlks bw n As) : ∃ l T', Blk w b l T' ∧ (T' = T ∨ T' = 3) := by
  rcases mem_lsBlks.1 hb with rfl | ⟨i, hi, hb⟩
  · exact ⟨_, _, h.blk, .inl rfl⟩
  · obtain ⟨l, hl⟩ := (h.row i hi).typed hb
    exact ⟨l, _, hl, .inr rfl⟩
theorem LsAt.lt (h : LsAt w T bw n As Ls) {b : Nat} (hb : b ∈ lsBlks bw n As) : b < w.heap.size := by
  obtain ⟨l, T', hl, _⟩ := h.typed hb; exact hl.lt
theorem LsAt.kp {w' : World} (h : LsAt w T bw n As Ls) {S : List Nat} (hk : Kp S w w') (hd : ∀ b, b ∈ lsBlks bw n As → b ∉ S) : LsAt w' T bw n As Ls :=
  ⟨hk.blk (hd bw (by simp [lsBlks])) h.blk, fun i hi => (h.row i hi).kp hk (fun b hb => hd b (mem_lsBlks.2 (.inr ⟨i, hi, hb⟩))), h.sep⟩
theorem LsAt.kp0 {w' : World} (h : LsAt w T bw n As Ls) (hk : Kp [] w w') : LsAt w' T bw n As Ls := h.kp hk (by simp)
theorem LsAt.congr (h : LsAt w T bw n As Ls) {Ls' : Nat → List Nat} (he : ∀ i, i < n → Ls i = Ls' i) : LsAt w T bw n As Ls' := by
  refine ⟨?_, fun i hi => by rw [← he i hi]; exact h.row i hi, h.sep⟩
  have : lsRow n As Ls' = lsRow n As Ls := by
    unfold lsRow
    apply List.map_congr_left
    intro i hi
    rw [he i (by simpa using hi)]
  rw [this]; exact h.blk
theorem lsAt_none {w' : World} {b : Nat} (hb : Blk w' b (List.replicate n (.slice none 0 0)) T) : LsAt w' T b n (fun _ => (none, 0)) (fun _ => []) := by
  refine ⟨?_, fun i _ => ownS_nil _ _ _, fun i j _ _ _ b hb => by simp [blkOf] at hb⟩
  have : lsRow n (fun _ => ((none : Option Addr), 0)) (fun _ => []) = List.replicate n (.slice none 0 0) := by
    unfold lsRow
    rw [List.eq_replicate_iff]
    exact ⟨by simp, fun x hx => by obtain ⟨i, _, rfl⟩ := List.mem_map.1 hx; rfl⟩
  rw [this]; exact hb
theorem LsAt.nbw (h : LsAt w T bw n As Ls) (hT : T ≠ 3) : ∀ j, j < n → bw ∉ blkOf (As j).1 := fun j hj hb => by
  obtain ⟨l, hl⟩ := (h.row j hj).typed hb
  exact relRow_ne h.blk hl hT rfl
/-- an element is laid anew -/
theorem LsAt.put {w1 w2 w3 : World} (h : LsAt w T bw n As Ls) (hT : T ≠ 3) (k1 : Kp [] w w1) {i : Nat} (hi : i < n) {L : List Nat} {ad' : Option Addr} {cap' : Nat}
    (ho : OwnS w2 3 1 ad' L.length cap' (L.map encI)) (kp2 : Kp (blkOf (As i).1) w1 w2) (hnew : ∀ b, b ∈ blkOf ad' → b ∈ blkOf (As i).1 ∨ w.heap.size ≤ b)
    (hu : Upd w2 bw (.cells ⟨(lsRow n As Ls).set i (.slice ad' L.length cap')⟩ T (0, 0)) w3) :
    LsAt w3 T bw n (fun j => if j = i then (ad', cap') else As j) (fun j => if j = i then L else Ls j) ∧ Kp (bw :: blkOf (As i).1) w w3 ∧ ∀ b, b ∈ lsBlks bw n (fun j => if j = i then (ad', cap') else As j) → b ∈ lsBlks bw n As ∨ w.heap.size ≤ b := by
  have hk1 := k1.size
  have nbw := h.nbw hT
  have nbw' : bw ∉ blkOf ad' := fun hb => by
    rcases hnew bw hb with h1 | h1
    · exact nbw i hi h1
    · have := h.blk.lt; omega
  have kall : Kp (bw :: blkOf (As i).1) w w3 := ((k1.mono (S' := bw :: blkOf (As i).1) (by simp)).after kp2 (fun b hb => .inl (List.mem_cons_of_mem _ hb))).after (hu.kp [bw] (.inl (by simp))) (fun b hb => .inl (by simp at hb; simp [hb]))
  refine ⟨⟨?_, fun j hj => ?_, fun j k hj hk hne b hb => ?_⟩, kall, fun b hb => ?_⟩
  · have := hu.blk
    have e1 : (lsRow n As Ls).set i (.slice ad' L.length cap') = lsRow n (fun j => if j = i then (ad', cap') else As j) (fun j => if j = i then L else Ls j) := by
      apply List.ext_getElem?
      intro j
      rw [List.getElem?_set, lsRow_len]
      by_cases hj : j < n
      · rw [lsRow_get _ _ hj, lsRow_get _ _ hj]
        by_cases e : i = j
        · subst e; simp [hi]
        · have e' : ¬ j = i := fun h => e h.symm
          simp [e, e']
      · rw [if_neg (by omega), List.getElem?_eq_none (by rw [lsRow_len]; omega), List.getElem?_eq_none (by rw [lsRow_len]; omega)]
    rw [e1] at this
    exact this
  · by_cases e : j = i
    · subst e
      simp only [if_true]
      exact ho.upd hu nbw'
    · simp only [if_neg e]
      exact ((h.row j hj).kp k1 (by simp)).kp kp2 (fun b hb hb2 => h.sep j i hj hi e b hb hb2) |>.upd hu (nbw j hj)
  · try dsimp only at hb ⊢
    by_cases ej : j = i
    · subst ej
      rw [if_pos rfl] at hb
      rw [if_neg (Ne.symm hne)]
      intro hb2
      rcases hnew b hb with h1 | h1
      · exact h.sep j k hj hk hne b h1 hb2
      · have := (h.row k hk).lt b hb2; omega
    · rw [if_neg ej] at hb
      by_cases ek : k = i
      · subst ek
        rw [if_pos rfl]
        intro hb2
        rcases hnew b hb2 with h1 | h1
        · exact h.sep j k hj hi hne b hb h1
        · have := (h.row j hj).lt b hb; omega
      · rw [if_neg ek]; exact h.sep j k hj hk hne b hb
  · rcases mem_lsBlks.1 hb with rfl | ⟨j, hj, hb⟩
    · exact .inl (mem_lsBlks.2 (.inl rfl))
    · by_cases e : j = i
      · rw [if_pos e] at hb
        rcases hnew b hb with h1 | h1
        · exact .inl (mem_lsBlks.2 (.inr ⟨i, hi, h1⟩))
        · exact .inr h1
      · rw [if_neg e] at hb
        exact .inl (mem_lsBlks.2 (.inr ⟨j, hj, hb⟩))
end

/-! ### make of elements that are one cell, whatever their type -/
section
variable {P : Program} {n : Nat} {e : Env} {K : EPost} {all : List Oper} {G : List Nat} {ro : Option Nat} {dst : Option Tmp} {ty : TypeId} {pos : String} {after : Array Edge} {g : Option (Nat × Bool)} {l : List Oper} {t : TypeId} {x y : Operand}
theorem o_make1 {T : TypeId} {z c : Value} {td : TypeDesc} {tn : String} {tby : Nat} {thp : Bool} {tal tfa : Nat} {tcm : Bool} {tms : Array Method} {kl kc : IntKind} {len cap : Int} (hl : ev e x = .int kl len) (hc : ev e y = .int kc cap) (hu : P.underlying t = some (.slice T)) (hi : P.info? T = some ⟨td, tn, 1, tby, thp, tal, tfa, some z, tcm, tms⟩) (hzc : z.cells = #[c])
    (h0 : 0 ≤ len) (hlc : len ≤ cap) (hby : (tby : Int) * cap ≤ 281474976710656) (h63 : cap ≤ 9223372036854775807) (hd : dOk n dst = true) (hm : may all G e g = some true)
    (k : ∀ b w', b = w.heap.size → Upd w b (.cells ⟨List.replicate cap.toNat c⟩ T (0, 0)) w' → Ops ro P n all G K l (put e dst (.slice (some ⟨b, 0, none⟩) len.toNat cap.toNat)) w') : Ops ro P n all G K (⟨dst, .makeSlice t x y, ty, pos, after, g⟩ :: l) e w := by
  refine ops_does (v := .slice (some ⟨w.heap.size, 0, none⟩) len.toNat cap.toNat) (w' := w.alloc (.cells (madeCells z.cells (cap.toNat * 1)) T)) hd hm ?_ (k _ _ rfl ?_)
  · have := run_make (P := P) w t T _ z hu hi rfl kl kc len cap h0 hlc hby h63
    simp only [execOp, Sem.run_bind, hl, hc, this, Result.andThen_ok, Sem.run_pure]
  · rw [Nat.mul_one, hzc, madeCells_one]
    exact upd_alloc w _
end

/-! ### The document's relation -/
def rowsF (M : List (List Nat)) : Nat → List Nat := fun i => elems (M.getD i [])
structure RRel (w : World) (p bw n : Nat) (As : Nat → Option Addr × Nat) (M : List (List Nat)) : Prop where
  hdr : Blk w p [.slice (some ⟨bw, 0, none⟩) n n] 110
  ls : LsAt w 106 bw n As (rowsF M)
  small : n ≤ 2048
  far : 0 ∉ p :: lsBlks bw n As
def rrBlks (p bw n : Nat) (As : Nat → Option Addr × Nat) : List Nat := p :: lsBlks bw n As
structure NewRR (w : World) (p bw n : Nat) (w' : World) (As : Nat → Option Addr × Nat) (M : List (List Nat)) : Prop where
  at_ : RRel w' p bw n As M
  kp : Kp [] w w'
  new : ∀ b, b ∈ rrBlks p bw n As → w.heap.size ≤ b
structure RRTo (w : World) (p bw n : Nat) (As : Nat → Option Addr × Nat) (w' : World) (bw' : Nat) (As' : Nat → Option Addr × Nat) (M' : List (List Nat)) : Prop where
  at_ : RRel w' p bw' n As' M'
  kp : Kp (rrBlks p bw n As) w w'
  new : ∀ b, b ∈ lsBlks bw' n As' → b ∈ lsBlks bw n As ∨ w.heap.size ≤ b
section
variable {p bw n : Nat} {As : Nat → Option Addr × Nat} {M : List (List Nat)}
theorem RRel.typed (h : RRel w p bw n As M) : ∀ b, b ∈ rrBlks p bw n As → ∃ l T, Blk w b l T ∧ (T = 110 ∨ T = 106 ∨ T = 3) := by
  intro b hb
  rcases List.mem_cons.1 hb with rfl | hb
  · exact ⟨_, _, h.hdr, .inl rfl⟩
  · obtain ⟨l, T, hl, ht⟩ := h.ls.typed hb
    exact ⟨l, T, hl, .inr ht⟩
theorem RRel.lt (h : RRel w p bw n As M) : ∀ b, b ∈ rrBlks p bw n As → b < w.heap.size := fun b hb => by
  obtain ⟨l, T, hl, _⟩ := h.typed b hb; exact hl.lt
theorem RRel.kp {w' : World} (h : RRel w p bw n As M) {S : List Nat} (hk : Kp S w w') (hd : ∀ b, b ∈ rrBlks p bw n As → b ∉ S) : RRel w' p bw n As M :=
  ⟨hk.blk (hd p (by simp [rrBlks])) h.hdr, h.ls.kp hk (fun b hb => hd b (List.mem_cons_of_mem _ hb)), h.small, h.far⟩
theorem RRel.kp0 {w' : World} (h : RRel w p bw n As M) (hk : Kp [] w w') : RRel w' p bw n As M := h.kp hk (by simp)
theorem RRel.sm {w' : World} (h : RRel w p bw n As M) (hs : Sm w w') : RRel w' p bw n As M := h.kp0 (hs.kp [])
theorem NewRR.to {w1 w2 : World} {bw' : Nat} {As' : Nat → Option Addr × Nat} {M' : List (List Nat)} (h : NewRR w p bw n w1 As M) (k : RRTo w1 p bw n As w2 bw' As' M') : NewRR w p bw' n w2 As' M' :=
  ⟨k.at_, h.kp.since k.kp h.new, fun b hb => by
    rcases List.mem_cons.1 hb with rfl | hb
    · exact h.new _ (by simp [rrBlks])
    · rcases k.new b hb with h1 | h1
      · exact h.new b (List.mem_cons_of_mem _ h1)
      · have := h.kp.size; omega⟩
theorem RRel.p_ls (h : RRel w p bw n As M) : p ∉ lsBlks bw n As := fun hb => by
  obtain ⟨l, T, hl, ht⟩ := h.ls.typed hb
  refine relRow_ne h.hdr hl ?_ rfl
  rcases ht with rfl | rfl <;> decide
theorem RRel.tab (h : RRel w p bw n As M) (hT : TabW w) {w' : World} {S : List Nat} (hk : Kp S w w') (hS : ∀ b, b ∈ S → b ∈ rrBlks p bw n As) : TabW w' := hT.kp hk (fun hm => h.far (hS _ hm))

theorem rNew_bad {x : Int} (hx : x < 0 ∨ 2048 < x) : Ret Tryd.prog 35 [I x] w (fun v w' => v = .tuple #[.pointer none, I 2] ∧ w' = w) := by
  refine enter Tryd.call35 Tryd.func35 rfl rfl rfl rfl ?_
  (repeat first|refine zA ?_|refine zB ?_|refine zC ?_|refine zD ?_|refine zE ?_|refine zg ?_|refine zo rfl rfl (by first|exact trivial|(simp only[AllP];omega)|(simp(discharger:=omega)only[AllP,cA,cB];omega)|(simp only[AllP,cC,cD,cE,cF,cG];omega)) ?_|refine zn ?_|refine zb ?_|refine ze rfl ?_|refine zr ?_|refine zk ?_|refine zT rfl rfl rfl ?_|refine zU rfl rfl rfl ?_|refine zV rfl rfl rfl ?_|refine zf rfl ?_|refine zt rfl ?_)
  refine o_bool [0] [I x] 9 true (fun w' => w' = w) ?_ ?_
  · refine o_split 2 false rfl rfl rfl (fun hb => ?_) (fun hb => ?_)
    · (repeat first|refine zo rfl rfl (by first|exact trivial|(simp only[AllP];omega)|(simp(discharger:=omega)only[AllP,cA,cB];omega)|(simp only[AllP,cC,cD,cE,cF,cG];omega)) ?_|refine zn ?_|refine zT rfl rfl rfl ?_|refine zU rfl rfl rfl ?_|refine zV rfl rfl rfl ?_)
      exact ⟨rfl, ⟨_, rfl, rfl⟩, rfl⟩
    · have hb' : ¬ x < 0 := by simpa using hb
      (repeat first|refine zo rfl rfl (by first|exact trivial|(simp only[AllP];omega)|(simp(discharger:=omega)only[AllP,cA,cB];omega)|(simp only[AllP,cC,cD,cE,cF,cG];omega)) ?_|refine zn ?_|refine zT rfl rfl rfl ?_|refine zU rfl rfl rfl ?_|refine zV rfl rfl rfl ?_)
      exact ⟨rfl, ⟨_, rfl, by simp; omega⟩, rfl⟩
  rintro e w' rfl
  (repeat first|refine zA ?_|refine zB ?_|refine zC ?_|refine zD ?_|refine zE ?_|refine zg ?_|refine zo rfl rfl (by first|exact trivial|(simp only[AllP];omega)|(simp(discharger:=omega)only[AllP,cA,cB];omega)|(simp only[AllP,cC,cD,cE,cF,cG];omega)) ?_|refine zn ?_|refine zb ?_|refine ze rfl ?_|refine zr ?_|refine zk ?_|refine zT rfl rfl rfl ?_|refine zU rfl rfl rfl ?_|refine zV rfl rfl rfl ?_|refine zf rfl ?_|refine zt rfl ?_)
  exact ⟨_, rfl, rfl, rfl⟩
theorem rowsF_zero (n i : Nat) : rowsF (zeroM n) i = [] := by
  unfold rowsF
  rw [List.eq_nil_iff_forall_not_mem]
  intro x hx
  have h1 := mem_elems.1 hx
  have h2 := bitM_zero n i x
  unfold bitM at h2
  rw [h1] at h2; cases h2
theorem rNew_ret (hT : TabW w) {n : Nat} (hn : n ≤ 2048) : Ret Tryd.prog 35 [I n] w (fun v w' => ∃ p bw As, v = .tuple #[ptr p, I 0] ∧ NewRR w p bw n w' As (zeroM n)) := by
  refine enter Tryd.call35 Tryd.func35 rfl rfl rfl rfl ?_
  (repeat first|refine zA ?_|refine zB ?_|refine zC ?_|refine zD ?_|refine zE ?_|refine zg ?_|refine zo rfl rfl (by first|exact trivial|(simp only[AllP];omega)|(simp(discharger:=omega)only[AllP,cA,cB];omega)|(simp only[AllP,cC,cD,cE,cF,cG];omega)) ?_|refine zn ?_|refine zb ?_|refine ze rfl ?_|refine zr ?_|refine zk ?_|refine zT rfl rfl rfl ?_|refine zU rfl rfl rfl ?_|refine zV rfl rfl rfl ?_|refine zf rfl ?_|refine zt rfl ?_)
  refine r_no rfl (by simp; omega) ?_
  (repeat first|refine zA ?_|refine zB ?_|refine zC ?_|refine zD ?_|refine zE ?_|refine zg ?_|refine zo rfl rfl (by first|exact trivial|(simp only[AllP];omega)|(simp(discharger:=omega)only[AllP,cA,cB];omega)|(simp only[AllP,cC,cD,cE,cF,cG];omega)) ?_|refine zn ?_|refine zb ?_|refine ze rfl ?_|refine zr ?_|refine zk ?_|refine zT rfl rfl rfl ?_|refine zU rfl rfl rfl ?_|refine zV rfl rfl rfl ?_|refine zf rfl ?_|refine zt rfl ?_)
  refine o_make1 (len := (n : Int)) (cap := (n : Int)) (kl := .i64) (kc := .i64) rfl rfl rfl rfl rfl (by omega) (by omega) (by omega) (by omega) rfl rfl ?_
  intro bw w2 hbw hu2
  rw [Int.toNat_natCast] at hu2 ⊢
  (repeat first|refine zA ?_|refine zB ?_|refine zC ?_|refine zD ?_|refine zE ?_|refine zg ?_|refine zo rfl rfl (by first|exact trivial|(simp only[AllP];omega)|(simp(discharger:=omega)only[AllP,cA,cB];omega)|(simp only[AllP,cC,cD,cE,cF,cG];omega)) ?_|refine zn ?_|refine zb ?_|refine ze rfl ?_|refine zr ?_|refine zk ?_|refine zT rfl rfl rfl ?_|refine zU rfl rfl rfl ?_|refine zV rfl rfl rfl ?_|refine zf rfl ?_|refine zt rfl ?_)
  refine o_build [.slice (some ⟨bw, 0, none⟩) n n] rfl rfl rfl rfl rfl rfl rfl ?_
  refine o_box rfl rfl rfl ?_
  intro p w3 hp hu3
  have k2 : Kp [] w w2 := hu2.kp [] (.inr (by omega))
  have k3 : Kp [] w2 w3 := hu3.kp [] (.inr (by omega))
  have s2 := hu2.size
  have l2 := hu2.lt
  have hls := (lsAt_none hu2.blk).kp0 k3
  have hb1 : ∀ b, b ∈ rrBlks p bw n (fun _ => ((none : Option Addr), 0)) → w.heap.size ≤ b := fun b hb => by
    rcases List.mem_cons.1 hb with rfl | hb
    · omega
    · rcases mem_lsBlks.1 hb with rfl | ⟨i, _, hb⟩
      · omega
      · simp [blkOf] at hb
  (repeat first|refine zA ?_|refine zB ?_|refine zC ?_|refine zD ?_|refine zE ?_|refine zg ?_|refine zo rfl rfl (by first|exact trivial|(simp only[AllP];omega)|(simp(discharger:=omega)only[AllP,cA,cB];omega)|(simp only[AllP,cC,cD,cE,cF,cG];omega)) ?_|refine zn ?_|refine zb ?_|refine ze rfl ?_|refine zr ?_|refine zk ?_|refine zT rfl rfl rfl ?_|refine zU rfl rfl rfl ?_|refine zV rfl rfl rfl ?_|refine zf rfl ?_|refine zt rfl ?_)
  refine ⟨_, rfl, p, bw, _, rfl, ⟨hu3.blk, hls.congr fun i _ => (rowsF_zero n i).symm, hn, fun hm => ?_⟩, k2.trans k3, hb1⟩
  have := hb1 _ hm; have := hT.lt; omega
theorem rSize_ret (h : RRel w p bw n As M) : Ret Tryd.prog 36 [ptr p] w (fun v w' => v = I n ∧ w' = w) := by
  refine enter Tryd.call36 Tryd.func36 rfl rfl rfl rfl ?_
  (repeat first|refine zA ?_|refine zB ?_|refine zC ?_|refine zD ?_|refine zE ?_|refine zg ?_|refine zo rfl rfl (by first|exact trivial|(simp only[AllP];omega)|(simp(discharger:=omega)only[AllP,cA,cB];omega)|(simp only[AllP,cC,cD,cE,cF,cG];omega)) ?_|refine zn ?_|refine zb ?_|refine ze rfl ?_|refine zr ?_|refine zk ?_|refine zT rfl rfl rfl ?_|refine zU rfl rfl rfl ?_|refine zV rfl rfl rfl ?_|refine zf rfl ?_|refine zt rfl ?_)
  refine o_load rfl h.hdr rfl rfl rfl rfl rfl ?_
  (repeat first|refine zA ?_|refine zB ?_|refine zC ?_|refine zD ?_|refine zE ?_|refine zg ?_|refine zo rfl rfl (by first|exact trivial|(simp only[AllP];omega)|(simp(discharger:=omega)only[AllP,cA,cB];omega)|(simp only[AllP,cC,cD,cE,cF,cG];omega)) ?_|refine zn ?_|refine zb ?_|refine ze rfl ?_|refine zr ?_|refine zk ?_|refine zT rfl rfl rfl ?_|refine zU rfl rfl rfl ?_|refine zV rfl rfl rfl ?_|refine zf rfl ?_|refine zt rfl ?_)
  exact ⟨_, rfl, rfl, rfl⟩
theorem rSize_nil : Ret Tryd.prog 36 [.pointer none] w (fun v w' => v = I 0 ∧ w' = w) := by
  refine enter Tryd.call36 Tryd.func36 rfl rfl rfl rfl ?_
  (repeat first|refine zA ?_|refine zB ?_|refine zC ?_|refine zD ?_|refine zE ?_|refine zg ?_|refine zo rfl rfl (by first|exact trivial|(simp only[AllP];omega)|(simp(discharger:=omega)only[AllP,cA,cB];omega)|(simp only[AllP,cC,cD,cE,cF,cG];omega)) ?_|refine zn ?_|refine zb ?_|refine ze rfl ?_|refine zr ?_|refine zk ?_|refine zT rfl rfl rfl ?_|refine zU rfl rfl rfl ?_|refine zV rfl rfl rfl ?_|refine zf rfl ?_|refine zt rfl ?_)
  exact ⟨_, rfl, rfl, rfl⟩
theorem rnode_ret (h : RRel w p bw n As M) (i : Int) : Ret Tryd.prog 72 [ptr p, I i] w (fun v w' => v = .bool (nodeB n i) ∧ w' = w) := by
  refine enter Tryd.call72 Tryd.func72 rfl rfl rfl rfl ?_
  (repeat first|refine zA ?_|refine zB ?_|refine zC ?_|refine zD ?_|refine zE ?_|refine zg ?_|refine zo rfl rfl (by first|exact trivial|(simp only[AllP];omega)|(simp(discharger:=omega)only[AllP,cA,cB];omega)|(simp only[AllP,cC,cD,cE,cF,cG];omega)) ?_|refine zn ?_|refine zb ?_|refine ze rfl ?_|refine zr ?_|refine zk ?_|refine zT rfl rfl rfl ?_|refine zU rfl rfl rfl ?_|refine zV rfl rfl rfl ?_|refine zf rfl ?_|refine zt rfl ?_)
  refine o_split 6 true rfl rfl rfl (fun hb => ?_) (fun hb => ?_)
  · have hb' : 0 ≤ i := by simpa using hb
    (repeat first|refine zA ?_|refine zB ?_|refine zC ?_|refine zD ?_|refine zE ?_|refine zg ?_|refine zo rfl rfl (by first|exact trivial|(simp only[AllP];omega)|(simp(discharger:=omega)only[AllP,cA,cB];omega)|(simp only[AllP,cC,cD,cE,cF,cG];omega)) ?_|refine zn ?_|refine zb ?_|refine ze rfl ?_|refine zr ?_|refine zk ?_|refine zT rfl rfl rfl ?_|refine zU rfl rfl rfl ?_|refine zV rfl rfl rfl ?_|refine zf rfl ?_|refine zt rfl ?_)
    refine o_load rfl h.hdr rfl rfl rfl rfl rfl ?_
    (repeat first|refine zA ?_|refine zB ?_|refine zC ?_|refine zD ?_|refine zE ?_|refine zg ?_|refine zo rfl rfl (by first|exact trivial|(simp only[AllP];omega)|(simp(discharger:=omega)only[AllP,cA,cB];omega)|(simp only[AllP,cC,cD,cE,cF,cG];omega)) ?_|refine zn ?_|refine zb ?_|refine ze rfl ?_|refine zr ?_|refine zk ?_|refine zT rfl rfl rfl ?_|refine zU rfl rfl rfl ?_|refine zV rfl rfl rfl ?_|refine zf rfl ?_|refine zt rfl ?_)
    exact ⟨_, rfl, by simp [nodeB, hb'], rfl⟩
  · have hb' : ¬ 0 ≤ i := by simpa using hb
    (repeat first|refine zA ?_|refine zB ?_|refine zC ?_|refine zD ?_|refine zE ?_|refine zg ?_|refine zo rfl rfl (by first|exact trivial|(simp only[AllP];omega)|(simp(discharger:=omega)only[AllP,cA,cB];omega)|(simp only[AllP,cC,cD,cE,cF,cG];omega)) ?_|refine zn ?_|refine zb ?_|refine ze rfl ?_|refine zr ?_|refine zk ?_|refine zT rfl rfl rfl ?_|refine zU rfl rfl rfl ?_|refine zV rfl rfl rfl ?_|refine zf rfl ?_|refine zt rfl ?_)
    exact ⟨_, rfl, by simp [nodeB, hb'], rfl⟩
theorem rnode_nil (i : Int) : Ret Tryd.prog 72 [.pointer none, I i] w (fun v w' => v = .bool false ∧ w' = w) := by
  refine enter Tryd.call72 Tryd.func72 rfl rfl rfl rfl ?_
  (repeat first|refine zA ?_|refine zB ?_|refine zC ?_|refine zD ?_|refine zE ?_|refine zg ?_|refine zo rfl rfl (by first|exact trivial|(simp only[AllP];omega)|(simp(discharger:=omega)only[AllP,cA,cB];omega)|(simp only[AllP,cC,cD,cE,cF,cG];omega)) ?_|refine zn ?_|refine zb ?_|refine ze rfl ?_|refine zr ?_|refine zk ?_|refine zT rfl rfl rfl ?_|refine zU rfl rfl rfl ?_|refine zV rfl rfl rfl ?_|refine zf rfl ?_|refine zt rfl ?_)
  exact ⟨_, rfl, rfl, rfl⟩
end
end Go.Vc
