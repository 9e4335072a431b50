/- Query: trees in memory; made. -/
import Derived.Test.YtkgngbpkiklckaaGreatDoorQClQRenames14
import Derived.Test.YtkgngbpkiklckaaGreatDoorQClQRenames10
namespace Go.Vc
open Go Go.Proofs
set_option maxRecDepth 10000
variable {w : World}
/-- the shape of a tree that was read: none -/
def zsh (_ : Int) : List Value := [S [], I 0, I 0, I 0, .bool false, .bool false]
abbrev TBlk (sh : Int → List Value) (w : World) (p : Nat) (o sz m : Int) (s : List UInt8) (below : Value) : Prop := Blk w p ([I o, I sz, I m, S s] ++ sh o ++ [below]) 121
/-- a tree in memory, its blocks from lo on -/
def TreeAt (sh : Int → List Value) (lo : Nat) (w : World) : QT → Nat → Prop
  | .n0 o m s, p => lo ≤ p ∧ ∃ ad cap, TBlk sh w p o 1 m s (.slice ad 0 cap)
  | .n1 o m s a, p => lo ≤ p ∧ ∃ ad cap q, TBlk sh w p o (1 + a.size : Nat) m s (.slice ad 1 cap) ∧ ReadS w ad [ptr q] ∧ (∀ b ∈ blkOf ad, lo ≤ b) ∧ TreeAt sh lo w a q
  | .n2 o m s a b, p => lo ≤ p ∧ ∃ ad cap q r, TBlk sh w p o (1 + a.size + b.size : Nat) m s (.slice ad 2 cap) ∧ ReadS w ad [ptr q, ptr r] ∧ (∀ b ∈ blkOf ad, lo ≤ b) ∧ TreeAt sh lo w a q ∧ TreeAt sh lo w b r
variable {sh : Int → List Value} {lo : Nat}
theorem TreeAt.kp {w' : World} {F : List Nat} (hk : Kp F w w') (hF : ∀ b, b ∈ F → b < lo) : ∀ {t : QT} {p : Nat}, TreeAt sh lo w t p → TreeAt sh lo w' t p
  | .n0 .., p, ⟨h1, ad, cap, h2⟩ => ⟨h1, ad, cap, hk.blk (fun h => by have := hF p h; omega) h2⟩
  | .n1 .., p, ⟨h1, ad, cap, q, h2, h3, h4, h5⟩ => ⟨h1, ad, cap, q, hk.blk (fun h => by have := hF p h; omega) h2, h3.kp hk (fun b hb h => by have := hF b h; have := h4 b hb; omega), h4, h5.kp hk hF⟩
  | .n2 .., p, ⟨h1, ad, cap, q, r, h2, h3, h4, h5, h6⟩ => ⟨h1, ad, cap, q, r, hk.blk (fun h => by have := hF p h; omega) h2, h3.kp hk (fun b hb h => by have := hF b h; have := h4 b hb; omega), h4, h5.kp hk hF, h6.kp hk hF⟩
theorem TreeAt.lo_le {lo' : Nat} (hl : lo' ≤ lo) : ∀ {t : QT} {p : Nat}, TreeAt sh lo w t p → TreeAt sh lo' w t p
  | .n0 .., p, ⟨h1, h⟩ => ⟨by omega, h⟩
  | .n1 .., p, ⟨h1, ad, cap, q, h2, h3, h4, h5⟩ => ⟨by omega, ad, cap, q, h2, h3, fun b hb => by have := h4 b hb; omega, h5.lo_le hl⟩
  | .n2 .., p, ⟨h1, ad, cap, q, r, h2, h3, h4, h5, h6⟩ => ⟨by omega, ad, cap, q, r, h2, h3, fun b hb => by have := h4 b hb; omega, h5.lo_le hl, h6.lo_le hl⟩
/-- a node's block: its size -/
theorem TreeAt.blk {t : QT} {p : Nat} (h : TreeAt sh lo w t p) : ∃ o m s below, TBlk sh w p o t.size m s below ∧ lo ≤ p ∧ o = t.op := by
  cases t with
  | n0 o m s => obtain ⟨h1, ad, cap, h2⟩ := h; exact ⟨_, _, _, _, h2, h1, rfl⟩
  | n1 o m s a => obtain ⟨h1, ad, cap, q, h2, _⟩ := h; exact ⟨_, _, _, _, h2, h1, rfl⟩
  | n2 o m s a b => obtain ⟨h1, ad, cap, q, r, h2, _⟩ := h; exact ⟨_, _, _, _, h2, h1, rfl⟩
def sumS : List (Nat × QT) → Nat
  | [] => 0
  | x :: r => x.2.size + sumS r
theorem sumS_take (l : List (Nat × QT)) : ∀ i, i < l.length → sumS (l.take (i + 1)) = sumS (l.take i) + ((l[i]?).map fun x => x.2.size).getD 0 := by
  induction l with
  | nil => intro i hi; simp at hi
  | cons x r ih =>
    intro i hi
    cases i with
    | zero => simp [sumS]
    | succ i =>
      have := ih i (by simpa using hi)
      simp only [List.take_succ_cons, sumS, List.getElem?_cons_succ]
      omega
theorem sumS_le (l : List (Nat × QT)) (i : Nat) : sumS (l.take i) ≤ sumS l := by
  induction l generalizing i with
  | nil => simp
  | cons x r ih =>
    cases i with
    | zero => simp [sumS]
    | succ i => have := ih i; simp only [List.take_succ_cons, sumS]; omega
set_option maxHeartbeats 3200000 in
theorem made_ret {ad : Option Addr} {cap : Nat} (op num : Int) (name : List UInt8) (kids : List (Nat × QT)) (hr : ReadS w ad (kids.map fun x => ptr x.1)) (hk : ∀ x ∈ kids, ∃ sh lo, TreeAt sh lo w x.2 x.1) (hs : sumS kids ≤ 4611686018427387904) (hkl : kids.length ≤ 2) :
    Ret Tryz.prog 122 [I op, S name, I num, .slice ad kids.length cap] w (fun v w' => ∃ p, v = ptr p ∧ w.heap.size ≤ p ∧ TBlk zsh w' p op (1 + sumS kids : Nat) num name (.slice ad kids.length cap) ∧ Kp [] w w') := by
  refine enter Tryz.call122 Tryz.func122 rfl rfl rfl rfl ?_
  (repeat first|refine zA ?_|refine zg ?_|refine zo rfl rfl trivial ?_|refine zn ?_)
  refine o_build [I op, I 1, I num, S name] rfl rfl rfl rfl rfl rfl rfl ?_
  (repeat refine zo rfl rfl trivial ?_)
  refine o_build [I op, I 1, I num, S name, S [], I 0, I 0, I 0, .bool false, .bool false, .slice ad kids.length cap] rfl rfl rfl rfl rfl rfl rfl ?_
  refine o_box rfl rfl rfl ?_
  intro p w1 hp hu
  have k1 : Kp [] w w1 := hu.kp [] (.inr (by omega))
  have hB1 : TBlk zsh w1 p op 1 num name (.slice ad kids.length cap) := hu.blk
  (repeat first|refine zA ?_|refine zB ?_|refine zg ?_|refine zo rfl rfl trivial ?_|refine zn ?_|refine zb ?_)
  refine r_loop (α := Nat) [9, 19, 20, 21] (fun i => [ptr p, .slice ad kids.length cap, I kids.length, I i]) (fun i W => i ≤ kids.length ∧ Kp [] w W ∧ TBlk zsh W p op (1 + sumS (kids.take i) : Nat) num name (.slice ad kids.length cap)) (fun i => kids.length - i) 0 rfl ⟨Nat.zero_le _, k1, hB1⟩ ?_
  rintro i e W ⟨hi, kW, hB⟩
  (repeat first|refine zA ?_|refine zD ?_|refine zg ?_|refine zo rfl rfl trivial ?_|refine zn ?_)
  refine r_if rfl (fun hc => ?_) (fun hc => ?_)
  · have hi2 : i < kids.length := by omega
    obtain ⟨x, hx⟩ : ∃ x, kids[i]? = some x := ⟨_, List.getElem?_eq_getElem hi2⟩
    obtain ⟨b, off, rfl, _, hcell⟩ := (hr.kp kW (by simp)).at_ (by simp; omega)
    obtain ⟨sh, lo, hT⟩ := hk x (List.mem_of_getElem? hx)
    obtain ⟨o, m, s, below, hBx, _, _⟩ := (hT.blk)
    have hst := sumS_take kids i hi2
    have hsl := sumS_le kids (i + 1)
    rw [hx] at hst
    simp only [Option.map_some, Option.getD_some] at hst
    have hxB := kW.blk (by simp) hBx
    refine zk ?_
    refine r_seq ?_
    refine r_block ?_
    refine r_seq ?_
    refine zg ?_
    (repeat refine zo rfl rfl (by first|exact trivial|(simp only[AllP];omega)) ?_)
    refine o_loadc (v := ptr x.1) rfl (hcell i _ (by rw [List.getElem?_map, hx]; rfl)) rfl rfl rfl rfl ?_
    (repeat first|refine zo rfl rfl trivial ?_|refine zn ?_)
    refine r_lastL follows_mixed rfl (by kernel_rfl) (by kernel_rfl) ?_
    (repeat first|refine yo rfl rfl trivial ?_|refine q_load rfl (fun _ hs => (Sm.blk hs hB).cell rfl) rfl rfl rfl rfl ?_)
    refine q_load (v := I x.2.size) rfl (fun _ hs => (Sm.blk hs hxB).cell rfl) rfl rfl rfl rfl ?_
    (repeat first|refine yo rfl rfl (by first|exact trivial|(simp only[AllP];omega)) ?_|refine yn ?_)
    intro w' hs
    have hB' := hs.blk hB
    refine o_store (off := 1) rfl hB' (by simp [zsh]) rfl rfl rfl rfl rfl rfl ?_
    intro w3 hu3
    (repeat first|refine zg ?_|refine zo rfl rfl (by first|exact trivial|(simp only[AllP];omega)) ?_|refine zn ?_)
    have s1 := hu.lt
    refine ⟨i + 1, rfl, ⟨by omega, (kW.trans (hs.kp [])).since (hu3.kp [p] (.inl (by simp))) (by simp; omega), ?_⟩, by omega⟩
    have h3 := hu3.blk
    have e1 : (((1 + sumS (kids.take i) : Nat) : Int) + (x.2.size : Int)) = ((1 + sumS (kids.take (i + 1)) : Nat) : Int) := by omega
    rw [e1] at h3
    exact h3
  · have : i = kids.length := by omega
    subst this
    (repeat first|refine zA ?_|refine zg ?_|refine zo rfl rfl trivial ?_|refine zn ?_|refine ze rfl ?_|refine zr ?_)
    exact ⟨_, rfl, p, rfl, by omega, by rw [List.take_length] at hB; exact hB, kW⟩
end Go.Vc
/- Query: what the parser's model uses up. -/
namespace Go.Vc
theorem adv_len {s s' : TS} (h : adv s = .ok s') : s'.len ≤ s.len - 1 ∧ (s.len = 0 → s' = s) := by
  unfold adv at h
  split at h
  · cases h
  · cases h; simp [TS.len]
  · rename_i h1 h2
    cases h
    cases s with
    | tok t r => cases r <;> first | exact absurd rfl (h1 _ _) | exact absurd rfl (h2 _ _)
    | stop j => simp [TS.len]
    | bad j => simp [TS.len]
theorem is_len {s : TS} {word : List UInt8} (h : s.is word = true) : 1 ≤ s.len := by
  cases s with
  | tok t r => simp [TS.len]
  | stop j => cases h
  | bad j => cases h
theorem mustT_len {s s' : TS} {word : List UInt8} (h : mustT s word = .ok s') : s'.len + 1 ≤ s.len := by
  unfold mustT at h
  split at h
  · rename_i h1
    have := is_len h1
    have := (adv_len h).1
    omega
  · cases h
theorem rowOp_len {lvl : Nat} {s : TS} {op : Int} (h : rowOp lvl s = some op) : 1 ≤ s.len := by
  unfold rowOp at h
  split at h
  · split at h
    · rename_i h1; exact is_len h1
    · cases h
  · split at h
    · rename_i h1; exact is_len h1
    · cases h
  · split at h
    · rename_i h1; exact is_len h1
    · split at h
      · rename_i h1; exact is_len h1
      · cases h
  · split at h
    · rename_i h1; exact is_len h1
    · cases h
theorem bind_ok {α β ε : Type} {x : Except ε α} {f : α → Except ε β} {b : β} (h : (x >>= f) = .ok b) : ∃ a, x = .ok a ∧ f a = .ok b := by
  cases x with
  | error e => cases h
  | ok a => exact ⟨a, rfl, h⟩
theorem cmpOp_len {s : TS} {k : Nat} (h : cmpOp s = some k) : 1 ≤ s.len := by
  unfold cmpOp at h
  have := List.find?_some h
  exact is_len this
/-- what is read takes a token for each node -/
theorem rd_size : ∀ n : Nat, (∀ lvl s t s', rd n lvl s = .ok (t, s') → t.size + s'.len ≤ s.len) ∧ (∀ lvl u s t s', rw n lvl u s = .ok (t, s') → t.size + s'.len ≤ u.size + s.len) ∧ (∀ op s t s', 1 ≤ s.len → wd n op s = .ok (t, s') → t.size + s'.len ≤ s.len)
  | 0 => ⟨fun _ _ _ _ h => by simp [rd] at h, fun _ _ _ _ _ h => by simp [rw] at h, fun _ _ _ _ _ h => by simp [wd] at h⟩
  | n + 1 => by
    obtain ⟨ih1, ih2, ih3⟩ := rd_size n
    have hrow : ∀ lvl s t s', (do let (t, s) ← rd n (subLvl lvl) s; rw n lvl t s) = (.ok (t, s') : PR) → t.size + s'.len ≤ s.len := by
      intro lvl s t s' h
      obtain ⟨⟨t1, s1⟩, h1, h2⟩ := bind_ok h
      have := ih1 _ _ _ _ h1
      have := ih2 _ _ _ _ _ h2
      omega
    refine ⟨fun lvl s t s' h => ?_, fun lvl u s t s' h => ?_, fun op s t s' hs h => ?_⟩
    · unfold rd at h
      split at h
      · split at h
        · rename_i h0
          have h00 := is_len h0
          obtain ⟨s1, h1, h⟩ := bind_ok h
          obtain ⟨⟨t1, s2⟩, h2, h⟩ := bind_ok h
          cases h
          have := (adv_len h1).1
          have := ih1 _ _ _ _ h2
          simp only [QT.size]; omega
        · obtain ⟨⟨t1, s1⟩, h1, h⟩ := bind_ok h
          have g1 := ih1 _ _ _ _ h1
          dsimp only at h
          split at h
          · rename_i op hop
            have h00 := cmpOp_len hop
            obtain ⟨s2, h2, h⟩ := bind_ok h
            obtain ⟨⟨t2, s3⟩, h3, h⟩ := bind_ok h
            cases h
            have := (adv_len h2).1
            have := ih1 _ _ _ _ h3
            simp only [QT.size]; omega
          · cases h; exact g1
      · exact hrow _ _ _ _ h
      · exact hrow _ _ _ _ h
      · exact hrow _ _ _ _ h
      · exact hrow _ _ _ _ h
      · split at h
        · rename_i t0 r
          have hl : 1 ≤ (TS.tok t0 r).len := by simp [TS.len]
          split at h
          · obtain ⟨s1, h1, h⟩ := bind_ok h
            cases h
            have := (adv_len h1).1
            simp only [QT.size]; omega
          · split at h
            · obtain ⟨s1, h1, h⟩ := bind_ok h
              obtain ⟨⟨t2, s2⟩, h2, h⟩ := bind_ok h
              cases h
              have := (adv_len h1).1
              have := ih1 _ _ _ _ h2
              simp only [QT.size]; omega
            · split at h
              · obtain ⟨s1, h1, h⟩ := bind_ok h
                obtain ⟨⟨t2, s2⟩, h2, h⟩ := bind_ok h
                obtain ⟨s3, h3, h⟩ := bind_ok h
                cases h
                have := (adv_len h1).1
                have := ih1 _ _ _ _ h2
                have := mustT_len h3
                omega
              · split at h
                · obtain ⟨s1, h1, h⟩ := bind_ok h
                  cases h
                  have := (adv_len h1).1
                  simp only [QT.size]; omega
                · split at h
                  · exact ih3 _ _ _ _ hl h
                  · split at h
                    · obtain ⟨s1, h1, h⟩ := bind_ok h
                      cases h
                      have := (adv_len h1).1
                      simp only [QT.size]; omega
                    · cases h
        · cases h
    · unfold rw at h
      split at h
      · cases h; exact Nat.le_refl _
      · rename_i op hop
        have h00 := rowOp_len hop
        obtain ⟨s1, h1, h⟩ := bind_ok h
        obtain ⟨⟨t2, s2⟩, h2, h⟩ := bind_ok h
        have := (adv_len h1).1
        have := ih1 _ _ _ _ h2
        have := ih2 _ _ _ _ _ h
        simp only [QT.size] at this; omega
    · unfold wd at h
      split at h
      · obtain ⟨s1, h1, h⟩ := bind_ok h
        cases h
        have := (adv_len h1).1
        simp only [QT.size]; omega
      · split at h
        · obtain ⟨s1, h1, h⟩ := bind_ok h
          have := (adv_len h1).1
          split at h
          · rename_i t0 r
            split at h
            · cases h
            · obtain ⟨s2, h2, h⟩ := bind_ok h
              obtain ⟨s3, h3, h⟩ := bind_ok h
              obtain ⟨⟨t4, s4⟩, h4, h⟩ := bind_ok h
              cases h
              have := (adv_len h2).1
              have := mustT_len h3
              have := ih1 _ _ _ _ h4
              simp only [QT.size]; omega
          · cases h
        · split at h
          · obtain ⟨s1, h1, h⟩ := bind_ok h
            obtain ⟨s2, h2, h⟩ := bind_ok h
            obtain ⟨⟨t3, s3⟩, h3, h⟩ := bind_ok h
            have := (adv_len h1).1
            have := mustT_len h2
            have := ih1 _ _ _ _ h3
            dsimp only at h
            split at h
            · obtain ⟨s4, h4, h⟩ := bind_ok h
              cases h
              have := mustT_len h4
              simp only [QT.size]; omega
            · obtain ⟨s4, h4, h⟩ := bind_ok h
              obtain ⟨⟨t5, s5⟩, h5, h⟩ := bind_ok h
              dsimp only at h
              obtain ⟨s6, h6, h⟩ := bind_ok h
              cases h
              have := mustT_len h4
              have := ih1 _ _ _ _ h5
              have := mustT_len h6
              simp only [QT.size]; omega
          · cases h
end Go.Vc
/- Query: a row of things with words between. -/
namespace Go.Vc
open Go Go.Proofs
set_option maxRecDepth 10000
section
variable {P : Program} {n : Nat} {w : World} {e : Env} {K : EPost} {all : List Oper} {G : List Nat} {ro : Ro} {dst : Option Tmp} {ty : TypeId} {pos : String} {after : Array Edge} {g : Option (Nat × Bool)} {l : List Oper} {t : TypeId} {x y : Operand}
/-- an entry of a map's literal, the key a text -/
theorem o_insertS {kt et : TypeId} {d : TypeDesc} {es : Array MapEntry} {clock m : Nat} {key v : Value} {z : Operand} {c1 c2 : Option Prop} (hx : ev e x = .map (some m)) (hy : same (ev e y) = some (c1, key)) (hv : same (ev e z) = some (c2, v)) (hb : w.heap[m]? = some (.map es clock))
    (hr : Instr.findNow d key es.toList 0 = some none) (hu : P.underlying t = some (.map kt et)) (hk : P.underlying kt = some d) (hdd : d = .string ∨ ∃ k, d = .int k) (hd : dOk n dst = true) (hm : may all G e g = some true)
    (k : ∀ w', Upd w m (.map (es.push ⟨key, v, clock⟩) (clock + 1)) w' → Ops ro P n all G K l (put e dst undef) w') : Ops ro P n all G K (⟨dst, .insert t x y z, ty, pos, after, g⟩ :: l) e w := by
  refine ops_skips (w' := { w with heap := w.heap.setIfInBounds m (.map (es.push ⟨key, v, clock⟩) (clock + 1)) }) hd hm ?_ (k _ (upd_setObj hb))
  have hgo : (getObj m).run P w = .ok (.map es clock) w := by simp [getObj, Sem.run, hb]
  have hfk : (Instr.findKey kt key es.toList).run P w = .ok none w := by
    simp only [Instr.findKey, Sem.run_bind, run_underlying hk, Result.andThen_ok, hr, Sem.run_pure]
  have hso : ∀ o, (setObj m o).run P w = .ok () { w with heap := w.heap.setIfInBounds m o } := fun o => by simp [setObj, Sem.run, hb]
  simp only [execOp, Instr.mapUpdate, hx, ← same_eq hy, ← same_eq hv, Sem.run_bind, run_underlying hu, Result.andThen_ok, hgo, checkKey_run hk hdd, hfk, hso, Sem.run_pure]
end
/-- the words of a level, as a map's entries -/
def wordE : Nat → Array MapEntry
  | 0 => #[⟨S (opWord 19), I 19, 0⟩]
  | 1 => #[⟨S (opWord 18), I 18, 0⟩]
  | 3 => #[⟨S (opWord 5), I 5, 0⟩, ⟨S (opWord 6), I 6, 1⟩]
  | _ => #[⟨S (opWord 7), I 7, 0⟩]
def wordF (lvl : Nat) (s : List UInt8) : Option Int :=
  match lvl with
  | 0 => if s = opWord 19 then some 19 else none
  | 1 => if s = opWord 18 then some 18 else none
  | 3 => if s = opWord 5 then some 5 else if s = opWord 6 then some 6 else none
  | _ => if s = opWord 7 then some 7 else none
theorem beq_strQ (a b : List UInt8) : ((ByteArray.mk ⟨a⟩) == (ByteArray.mk ⟨b⟩)) = decide (a = b) := by
  have : ((ByteArray.mk ⟨a⟩) == (ByteArray.mk ⟨b⟩)) = ((Array.mk a) == (Array.mk b)) := rfl
  rw [this, Bool.eq_iff_iff]; simp
theorem same_str (a b : List UInt8) : Instr.sameNow .string (S a) (S b) = some (decide (a = b)) := by
  show some _ = some _
  rw [← beq_strQ]
theorem word_find (lvl : Nat) (s : List UInt8) : ∃ r : Option (Nat × Value), Instr.findNow .string (S s) (wordE lvl).toList 0 = some r ∧ (match wordF lvl s with | some v => ∃ i, r = some (i, I v) | none => r = none) := by
  have h1 : ∀ (k : Nat) (v : Int), ∃ r : Option (Nat × Value), Instr.findNow .string (S s) [⟨S (opWord k), I v, 0⟩] 0 = some r ∧ (match (if s = opWord k then some v else none) with | some v => ∃ i, r = some (i, I v) | none => r = none) := by
    intro k v
    simp only [Instr.findNow, same_str]
    by_cases c : s = opWord k
    · rw [if_pos c, decide_eq_true c]; exact ⟨_, rfl, _, rfl⟩
    · rw [if_neg c, decide_eq_false c]; exact ⟨_, rfl, rfl⟩
  unfold wordE wordF
  split
  · exact h1 19 19
  · exact h1 18 18
  · simp only [Instr.findNow, same_str]
    by_cases c : s = opWord 5
    · rw [if_pos c, decide_eq_true c]; exact ⟨_, rfl, _, rfl⟩
    · rw [if_neg c, decide_eq_false c]
      by_cases c2 : s = opWord 6
      · rw [if_pos c2, decide_eq_true c2]; exact ⟨_, rfl, _, rfl⟩
      · rw [if_neg c2, decide_eq_false c2]; exact ⟨_, rfl, rfl⟩
  · exact h1 7 7
theorem rowOp_eq {s : TS} (lvl : Nat) : rowOp lvl s = if s.hd.num < 0 then wordF lvl s.hd.text else none := by
  have e : ∀ (k : Nat), opWord k ≠ [] → s.is (opWord k) = (decide (s.hd.text = opWord k) && decide (s.hd.num < 0)) := fun k hk => is_hd hk
  unfold rowOp wordF
  by_cases c : s.hd.num < 0
  · rw [if_pos c]
    split <;> simp only [e 19 (by decide), e 18 (by decide), e 5 (by decide), e 6 (by decide), e 7 (by decide), c, decide_true, Bool.and_true, decide_eq_true_eq]
  · rw [if_neg c]
    split <;> simp [e 19 (by decide), e 18 (by decide), e 5 (by decide), e 6 (by decide), e 7 (by decide), c]
end Go.Vc
/- Query: row, and what reads rows. -/
namespace Go.Vc
open Go Go.Proofs
set_option maxRecDepth 10000
variable {w : World} {p : Nat} {txt : List UInt8} {s : TS}
/-- a reading function does as the model says -/
def RdOk (n lvl : Nat) (f : FuncId) : Prop := ∀ {w : World} {p : Nat} {txt : List UInt8} {s : TS}, AscW w → p ≠ 0 → PAt w p txt s → txt.length ≤ 4096 → s.len ≤ 4096 → 10 * s.len + 7 ≤ n + lvl →
  RetP Tryz.prog f [ptr p] w (fun v w' => ∃ t s', rd n lvl s = .ok (t, s') ∧ (∃ q, v = ptr q ∧ TreeAt zsh (p + 1) w' t q) ∧ PAt w' p txt s' ∧ Kp [p] w w') (OutE (rd n lvl s) p w)
theorem rd_row {n lvl : Nat} (hl : lvl = 0 ∨ lvl = 1 ∨ lvl = 3 ∨ lvl = 4) : rd (n + 1) lvl s = (rd n (subLvl lvl) s >>= fun x => rw n lvl x.1 x.2) := by
  rcases hl with rfl | rfl | rfl | rfl <;> rfl
theorem rw_none {m lvl : Nat} {t : QT} (h : rowOp lvl s = none) : rw (m + 1) lvl t s = .ok (t, s) := by
  rw [rw, h]
theorem rw_some {m lvl : Nat} {t : QT} {op : Int} (h : rowOp lvl s = some op) : rw (m + 1) lvl t s = (adv s >>= fun s => rd m (subLvl lvl) s >>= fun x => rw m lvl (.n2 op 0 [] t x.1) x.2) := by
  rw [rw, h]
theorem pos_lt {w : World} {k : Tok} {i : Nat} (h : PB w p txt i k) : p < w.heap.size := Blk.lt h
/-- a node above two -/
theorem n2_at {w3 w5 : World} {q q2 b p' : Nat} {t u : QT} {op : Int} (ht : TreeAt zsh (p + 1) w3 t q) (hu : TreeAt zsh (p + 1) w3 u q2) (k35 : Kp [] w3 w5) (hb : p + 1 ≤ b) (hr : ReadS w5 (some ⟨b, 0, none⟩) [ptr q, ptr q2]) (hp' : p + 1 ≤ p')
    (hB : TBlk zsh w5 p' op (1 + sumS [(q, t), (q2, u)] : Nat) 0 [] (.slice (some ⟨b, 0, none⟩) 2 2)) : TreeAt zsh (p + 1) w5 (.n2 op 0 [] t u) p' := by
  refine ⟨hp', some ⟨b, 0, none⟩, 2, q, q2, ?_, hr, by simp [blkOf]; exact hb, ht.kp k35 (by simp), hu.kp k35 (by simp)⟩
  have e : 1 + sumS [(q, t), (q2, u)] = 1 + t.size + u.size := by simp [sumS]; omega
  rw [e] at hB
  exact hB
set_option maxHeartbeats 6400000 in
theorem row_ret {n lvl : Nat} {f : FuncId} {mm c : Nat} (hl : lvl = 0 ∨ lvl = 1 ∨ lvl = 3 ∨ lvl = 4) (ih : ∀ m, m ≤ n → RdOk m (subLvl lvl) f) (hA : AscW w) (hpg : p ≠ 0) (h : PAt w p txt s) (htl : txt.length ≤ 4096) (hsl : s.len ≤ 4096) (hn : 10 * s.len + 7 ≤ n + 1 + lvl)
    (hm : w.heap[mm]? = some (.map (wordE lvl) c)) (hmp : mm ≠ p) :
    RetP Tryz.prog 81 [ptr p, .func (.func f) #[ptr p] #[], .map (some mm)] w (fun v w' => ∃ t s', rd (n + 1) lvl s = .ok (t, s') ∧ (∃ q, v = ptr q ∧ TreeAt zsh (p + 1) w' t q) ∧ PAt w' p txt s' ∧ Kp [p] w w') (OutE (rd (n + 1) lvl s) p w) := by
  have hrd := rd_row (n := n) (s := s) hl
  have hmlt : mm < w.heap.size := (Array.getElem?_eq_some_iff.1 hm).1
  have hpl := pos_lt h.pb
  have hsub : subLvl lvl = lvl + 1 := by rcases hl with rfl | rfl | rfl | rfl <;> rfl
  refine enterP Tryz.call81 Tryz.func81 rfl rfl rfl rfl ?_
  (repeat first|refine zA ?_|refine zg ?_|refine zo rfl rfl trivial ?_|refine zn ?_)
  refine o_callvP (first := #[ptr p]) (cap := #[]) (ih n (Nat.le_refl _) hA hpg h htl hsl (by rw [hsub]; omega)) rfl rfl rfl rfl (fun v w' hE => ?_) ?_
  · obtain ⟨c1, i1, h1, h2, h3⟩ := hE
    exact ⟨c1, i1, by rw [hrd, h1]; rfl, h2, h3⟩
  rintro v w1 ⟨t, s1, h1, ⟨q, rfl, hT⟩, hP, k1⟩
  have hz := (rd_size n).1 _ _ _ _ h1
  rw [h1] at hrd
  have hrd : rd (n + 1) lvl s = rw n lvl t s1 := hrd
  have htp := t.size_pos
  (repeat first|refine zo rfl rfl trivial ?_|refine zn ?_|refine zb ?_)
  refine r_loop (α := Nat × QT × TS × Nat) [0, 1, 2, 7] (fun x => [ptr p, .func (.func f) #[ptr p] #[], .map (some mm), ptr x.2.2.2])
    (fun x W => rd (n + 1) lvl s = rw x.1 lvl x.2.1 x.2.2.1 ∧ x.1 ≤ n ∧ 10 * x.2.2.1.len + 1 ≤ x.1 ∧ TreeAt zsh (p + 1) W x.2.1 x.2.2.2 ∧ PAt W p txt x.2.2.1 ∧ Kp [p] w W ∧ x.2.1.size + x.2.2.1.len ≤ s.len) (fun x => x.1) (n, t, s1, q) rfl ⟨hrd, Nat.le_refl _, by dsimp only; omega, hT, hP, k1, hz⟩ ?_
  clear hT hP k1 hz htp h1 hrd
  rintro ⟨m, t, s1, q⟩ e W ⟨hrd, hmn, hnd, hT, hP, kW, hz⟩
  dsimp only at hrd hmn hnd hT hP hz ⊢
  obtain ⟨m', rfl⟩ : ∃ m', m = m' + 1 := ⟨m - 1, by omega⟩
  have hmW : W.heap[mm]? = some (.map (wordE lvl) c) := by rw [kW.at_ mm hmlt (by simpa using hmp)]; exact hm
  have hB := hP.pb
  obtain ⟨r, hr, hw⟩ := word_find lvl s1.hd.text
  have hro := rowOp_eq (s := s1) lvl
  (repeat first|refine zA ?_|refine zg ?_|refine zo rfl rfl trivial ?_|refine zb ?_|refine o_load rfl hB rfl rfl rfl rfl rfl ?_)
  refine o_lookup2 r rfl rfl hmW hr rfl rfl (.inl rfl) rfl rfl rfl rfl ?_
  cases hwf : wordF lvl s1.hd.text with
  | none =>
    rw [hwf] at hw hro
    have hw : r = none := hw
    subst hw
    have hro : rowOp lvl s1 = none := by rw [hro]; split <;> rfl
    (repeat first|refine zA ?_|refine zB ?_|refine zg ?_|refine zo rfl rfl trivial ?_|refine zn ?_|refine zr ?_|refine zT rfl rfl rfl ?_|refine zt rfl ?_)
    exact ⟨_, rfl, t, s1, by rw [hrd, rw_none hro], ⟨q, rfl, hT⟩, hP, kW⟩
  | some v =>
    rw [hwf] at hw hro
    obtain ⟨i, hw⟩ : ∃ i, r = some (i, I v) := hw
    subst hw
    (repeat first|refine zA ?_|refine zB ?_|refine zg ?_|refine zo rfl rfl trivial ?_|refine zn ?_|refine zU rfl rfl rfl ?_|refine o_load rfl hB rfl rfl rfl rfl rfl ?_)
    refine r_if rfl (fun h0 => ?_) (fun h0 => ?_)
    · have hro : rowOp lvl s1 = none := by rw [hro, if_neg (by omega)]
      (repeat first|refine zA ?_|refine zg ?_|refine zo rfl rfl trivial ?_|refine zn ?_|refine zr ?_)
      exact ⟨_, rfl, t, s1, by rw [hrd, rw_none hro], ⟨q, rfl, hT⟩, hP, kW⟩
    · have hro : rowOp lvl s1 = some v := by rw [hro, if_pos (by omega)]
      have hl1 := rowOp_len hro
      rw [rw_some hro] at hrd
      (repeat first|refine zA ?_|refine zg ?_|refine zo rfl rfl trivial ?_|refine zk ?_)
      refine o_callP (adv_ret hP htl) rfl rfl rfl (fun v w' hE => ?_) ?_
      · obtain ⟨c1, i1, h1, h2, h3⟩ := hE
        exact ⟨c1, i1, by rw [hrd, h1]; rfl, h2, kW.trans h3⟩
      rintro v' w2 ⟨rfl, ⟨s2, h2, hP2⟩, k2⟩
      rw [h2] at hrd
      have hrd : rd (n + 1) lvl s = (rd m' (subLvl lvl) s2 >>= fun x => rw m' lvl (.n2 v 0 [] t x.1) x.2) := hrd
      have hl2 := (adv_len h2).1
      have kW2 := kW.trans k2
      (repeat first|refine zg ?_|refine zo rfl rfl trivial ?_|refine zn ?_)
      refine o_callvP (first := #[ptr p]) (cap := #[]) (ih m' (by omega) (hA.kp kW2 (by simpa using Ne.symm hpg)) hpg hP2 htl (by omega) (by rw [hsub]; omega)) rfl rfl rfl rfl (fun v w' hE => ?_) ?_
      · obtain ⟨c1, i1, h1, h2, h3⟩ := hE
        exact ⟨c1, i1, by rw [hrd, h1]; rfl, h2, kW2.trans h3⟩
      rintro v' w3 ⟨u, s3, h3, ⟨q2, rfl, hT3⟩, hP3, k3⟩
      have hz3 := (rd_size m').1 _ _ _ _ h3
      rw [h3] at hrd
      have hrd : rd (n + 1) lvl s = rw m' lvl (.n2 v 0 [] t u) s3 := hrd
      have htp := t.size_pos
      have hup := u.size_pos
      have kW3 := kW2.trans k3
      have hTt := (hT.kp k2 (by simp)).kp k3 (by simp)
      have hsz3 := kW3.size
      refine o_buildSlice [ptr q, ptr q2] rfl (by simp [Value.oneCell']) rfl (by decide) (by decide) rfl rfl rfl rfl rfl ?_
      intro b w4 hb hu4
      have k4 : Kp [] w3 w4 := hu4.kp [] (.inr (by omega))
      have hr4 : ReadS w4 (some ⟨b, 0, none⟩) [ptr q, ptr q2] := fun i v hv => by rw [addr_lit, Nat.zero_add]; exact hu4.blk.cell hv
      refine o_call (made_ret v 0 [] [(q, t), (q2, u)] hr4 (by simp; exact ⟨⟨_, _, hTt.kp k4 (by simp)⟩, ⟨_, _, hT3.kp k4 (by simp)⟩⟩) (by simp [sumS]; omega) (by simp)) rfl rfl rfl ?_
      rintro v' w5 ⟨p', rfl, hp', hB5, k5⟩
      have hs4 := k4.size
      (repeat first|refine zo rfl rfl trivial ?_|refine zn ?_)
      exact ⟨(m', .n2 v 0 [] t u, s3, p'), rfl, ⟨hrd, by dsimp only; omega, by dsimp only; omega, n2_at hTt hT3 (k4.trans k5) (by omega) (hr4.kp k5 (by simp)) (by dsimp only; omega) hB5, (hP3.kp k4 (by simp)).kp k5 (by simp), (kW3.trans (k4.mono (by simp))).trans (k5.mono (by simp)), by simp only [QT.size]; omega⟩, by dsimp only; omega⟩
end Go.Vc
