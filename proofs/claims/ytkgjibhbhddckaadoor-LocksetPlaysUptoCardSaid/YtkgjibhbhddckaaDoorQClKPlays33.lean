/- append that tells whether the row has stayed where it was. -/
import Derived.Test.YtkgjibhbhddckaaDoorQClKPlays5
import Derived.Test.YtkgjibhbhddckaaDoorQClKPlays32
import Derived.Test.YtkgjibhbhddckaaDoorQClKPlays25
import Derived.Test.YtkgjibhbhddckaaDoorQClKPlays7
import Derived.Test.YtkgjibhbhddckaaDoorQClKPlays31
namespace Go.Vc
open Go
variable {P : Program} {n : Nat} {a : Act} {e : Env} {w : World} {K : EPost} {X : List (Nat × EPost)} {R : EPost} {all : List Oper} {G : List Nat} {ro : Option Nat}

theorem run_appendK {t ty T : TypeId} {td : TypeDesc} {tn : String} {size tby : Nat} {thp : Bool} {tal tfa : Nat} {z : Value} {tcm : Bool} {tms : Array Method}
    (hu : P.underlying t = some (.slice T)) (hi : P.info? T = some ⟨td, tn, size, tby, thp, tal, tfa, some z, tcm, tms⟩) (hzs : z.cells.size = size) (hsz : 0 < size)
    {ad : Option Addr} {n cap : Nat} {xs : List Value} (ho : OwnS w T size ad n cap xs) {ay : Addr} {m cy : Nat} {news : List Value} (hl : news.length = m * size) (hm0 : 0 < m) (hn : ∀ j v, news[j]? = some v → w.cell? (ay.add j) = some v) (h1 : ∀ v ∈ news, v.oneCell' = true)
    (h63 : n + m ≤ maxLen) (hby : (n + m) * tby ≤ 140737488355328) :
    ∃ ad' cap' w', (Builtin.append_ #[t, t] ty #[.slice ad n cap, .slice (some ay) m cy]).run P w = .ok (.slice ad' (n + m) cap') w' ∧ OwnS w' T size ad' (n + m) cap' (xs ++ news) ∧ Kp (blkOf ad) w w' ∧
      (∀ b, b ∈ blkOf ad' → b ∈ blkOf ad ∨ w.heap.size ≤ b) ∧ (ad' = ad ∨ (Kp [] w w' ∧ ∀ b, b ∈ blkOf ad' → w.heap.size ≤ b)) := by
  have hlen : (xs ++ news).length = (n + m) * size := by rw [List.length_append, ho.1, hl, Nat.add_mul]
  have hsmall : n + m ≤ 9223372036854775807 := by simp only [maxLen] at h63; omega
  have grow : ∀ old, old < n + m → OwnS (w.drew.alloc (.cells (xs.toArray ++ news.toArray ++ Builtin.zeroCells z.cells (grownCap w (n + m) old T - (n + m))) T)) T size (some ⟨w.heap.size, 0, none⟩) (n + m) (grownCap w (n + m) old T) (xs ++ news) ∧
      Kp [] w (w.drew.alloc (.cells (xs.toArray ++ news.toArray ++ Builtin.zeroCells z.cells (grownCap w (n + m) old T - (n + m))) T)) := by
    intro old hold
    have hge := grownCap_ge w (n + m) old T
    have hcm := grownCap_le_maxLen w (n + m) old T h63
    have hup := upd_alloc w.drew (.cells (xs.toArray ++ news.toArray ++ Builtin.zeroCells z.cells (grownCap w (n + m) old T - (n + m))) T)
    have e1 : xs.toArray ++ news.toArray ++ Builtin.zeroCells z.cells (grownCap w (n + m) old T - (n + m)) = ⟨xs ++ news ++ (Builtin.zeroCells z.cells (grownCap w (n + m) old T - (n + m))).toList⟩ := by apply Array.ext'; simp
    rw [e1] at hup ⊢
    refine ⟨⟨hlen, rfl, rfl, hge, hcm, _, hup.at_, ?_⟩, hup.drew.kp _ (.inr (Nat.le_refl _))⟩
    simp only [List.length_append, Array.length_toList, size_zeroCells, hzs, ho.1, hl, ← Nat.add_mul]
    congr 1
    omega
  cases ad with
  | none =>
    obtain ⟨rfl, rfl⟩ := ho.2
    have hx : xs = [] := List.eq_nil_of_length_eq_zero (by simpa using ho.1)
    subst hx
    have hg := grow 0 (by omega)
    have hr := run_append_nil (P := P) w t ty T _ z hu hi rfl ay m cy news hl hn hm0 (by omega) (by have hb := hby; simp only [Nat.zero_add] at hb; exact Nat.le_trans hb (by omega))
    simp only [Nat.zero_add, List.nil_append, Array.empty_append] at hg ⊢
    exact ⟨_, _, _, hr, hg.1, hg.2.mono (by simp), fun b hb => (by simp [blkOf] at hb; right; omega), .inr ⟨hg.2, fun b hb => (by simp [blkOf] at hb; omega)⟩⟩
  | some ad =>
    obtain ⟨b, off, spot⟩ := ad
    obtain ⟨ho0, hsp, hnc, hcm, junk, hB, hjl⟩ := ho.2
    dsimp only at ho0 hsp hB
    subst ho0 hsp
    by_cases hroom : n + m ≤ cap
    · have hfit : n * size + news.length ≤ (⟨xs ++ junk⟩ : Array Value).size := by
        show _ ≤ (xs ++ junk).length
        rw [hjl, hl, ← Nat.add_mul]; exact Nat.mul_le_mul_right _ hroom
      have hr := run_append_room (P := P) w t ty T _ hu hi b n cap ⟨xs ++ junk⟩ hB ay m cy news hl hn h1 hroom hfit
      have hnew : (List.take (n * size) (xs ++ junk) ++ news ++ List.drop (n * size + news.length) (xs ++ junk)).toArray = ⟨xs ++ news ++ junk.drop news.length⟩ := by
        apply Array.ext'
        show _ = xs ++ news ++ junk.drop news.length
        rw [← ho.1, List.take_left, List.drop_append, List.drop_of_length_le (by omega)]
        simp
      rw [hnew] at hr
      refine ⟨_, _, _, hr, ⟨hlen, rfl, rfl, hroom, hcm, junk.drop news.length, setRow_heap w b _ _ T _ hB, ?_⟩, (upd_setRow hB).kp _ (.inl (by simp [blkOf])), fun c hc => .inl hc, .inl rfl⟩
      have h2 : news.length ≤ junk.length := by
        have h3 : n * size + news.length ≤ (xs ++ junk).length := hfit
        rw [List.length_append, ho.1] at h3
        omega
      rw [List.length_append] at hjl
      simp only [List.length_append, List.length_drop]
      omega
    · have holds : ∀ j v, xs[j]? = some v → w.cell? ((⟨b, 0, none⟩ : Addr).add j) = some v := fun j v hv => by
        rw [addr_lit, Nat.zero_add]; exact hB.cell (by rw [List.getElem?_append_left (List.getElem?_eq_some_iff.1 hv).1]; exact hv)
      have hr := run_append_grow (P := P) w t ty T _ z hu hi rfl ⟨b, 0, none⟩ n cap xs ho.1 holds ay m cy news hl hn (by omega) (by omega) (growslice_fits (by omega) hby)
      have hg := grow cap (by omega)
      exact ⟨_, _, _, hr, hg.1, hg.2.mono (by simp), fun c hc => (by simp [blkOf] at hc; right; omega), .inr ⟨hg.2, fun b hb => (by simp [blkOf] at hb; omega)⟩⟩

section
variable {dst : Option Tmp} {ty : TypeId} {pos : String} {after : Array Edge} {g : Option (Nat × Bool)} {l : List Oper} {t : TypeId} {x y : Operand}

theorem o_appendK {T : TypeId} {td : TypeDesc} {tn : String} {size tby : Nat} {thp : Bool} {tal tfa : Nat} {z : Value} {tcm : Bool} {tms : Array Method}
    {ad : Option Addr} {k cap : Nat} {xs : List Value} {ay : Addr} {m cy : Nat} (news : List Value)
    (hx : ev e x = .slice ad k cap) (hy : ev e y = .slice (some ay) m cy) (ho : OwnS w T size ad k cap xs) (hn : ∀ j v, news[j]? = some v → w.cell? (ay.add j) = some v)
    (hu : P.underlying t = some (.slice T)) (hi : P.info? T = some ⟨td, tn, size, tby, thp, tal, tfa, some z, tcm, tms⟩) (hzs : z.cells.size = size) (hsz : 0 < size)
    (hl : news.length = m * size) (hm0 : 0 < m) (h1 : ∀ v ∈ news, v.oneCell' = true) (h63 : k + m ≤ maxLen) (hby : (k + m) * tby ≤ 140737488355328) (hd : dOk n dst = true) (hm : may all G e g = some true)
    (kk : ∀ ad' cap' w', OwnS w' T size ad' (k + m) cap' (xs ++ news) → Kp (blkOf ad) w w' → (∀ b, b ∈ blkOf ad' → b ∈ blkOf ad ∨ w.heap.size ≤ b) → (ad' = ad ∨ (Kp [] w w' ∧ ∀ b, b ∈ blkOf ad' → w.heap.size ≤ b)) → Ops ro P n all G K l (put e dst (.slice ad' (k + m) cap')) w') :
    Ops ro P n all G K (⟨dst, .call ⟨.builtin .append, #[x, y], #[t, t]⟩, ty, pos, after, g⟩ :: l) e w := by
  obtain ⟨ad', cap', w', hr, h2, h3, h4, h5⟩ := run_appendK (P := P) (ty := ty) (cy := cy) hu hi hzs hsz ho hl hm0 hn h1 h63 hby
  refine ops_does (v := .slice ad' (k + m) cap') (w' := w') hd hm ?_ (kk _ _ _ h2 h3 h4 h5)
  simp only [execOp, resolve, Sem.run_bind, Sem.run_pure, Result.andThen_ok, invoke, builtin, List.map_toArray, List.map_cons, List.map_nil, hx, hy, hr]

end
end Go.Vc
/- rows of records that grow by append, the old row still told. -/
namespace Go.Vc
open Go
variable {P : Program} {w : World}
section
variable {α : Type} {f : α → List Value} {m : Nat} {T : TypeId}
/-- the row ad grew out of the row adr, which still tells rs -/
structure Gw (w : World) (T : TypeId) (m : Nat) (f : α → List Value) (adr : Option Addr) (rs : List α) (ad : Option Addr) (cap : Nat) (ms : List α) : Prop where
  own : OwnS w T m ad ms.length cap (ms.flatMap f)
  read : ReadS w adr (rs.flatMap f)
  pre : rs = ms.take rs.length
  dis : ad = adr ∨ ∀ b, b ∈ blkOf ad → b ∉ blkOf adr
  lt : ∀ b, b ∈ blkOf adr → b < w.heap.size
theorem Gw.of {adr : Option Addr} {cap : Nat} {rs : List α} (h : OwnS w T m adr rs.length cap (rs.flatMap f)) : Gw w T m f adr rs adr cap rs :=
  ⟨h, h.readN, (List.take_length).symm, .inl rfl, h.lt⟩
theorem Gw.kp {w' : World} {S : List Nat} {adr ad : Option Addr} {cap : Nat} {rs ms : List α} (h : Gw w T m f adr rs ad cap ms) (hk : Kp S w w') (h1 : ∀ b, b ∈ blkOf ad → b ∉ S) (h2 : ∀ b, b ∈ blkOf adr → b ∉ S) : Gw w' T m f adr rs ad cap ms :=
  ⟨h.own.kp hk h1, h.read.kp hk h2, h.pre, h.dis, fun b hb => Nat.lt_of_lt_of_le (h.lt b hb) hk.size⟩
theorem flatMap_take (hf : ∀ x, (f x).length = m) : ∀ (l : List α) (k : Nat), (l.take k).flatMap f = (l.flatMap f).take (k * m)
  | [], k => by simp
  | x :: r, 0 => by simp
  | x :: r, k + 1 => by
    have e1 : (k + 1) * m - (f x).length = k * m := by rw [hf, Nat.add_mul]; omega
    have e2 : (f x).length ≤ (k + 1) * m := by rw [hf, Nat.add_mul]; omega
    rw [List.take_succ_cons, List.flatMap_cons, List.flatMap_cons, flatMap_take hf r k, List.take_append, e1, List.take_of_length_le e2]
theorem Gw.push {w' : World} {adr ad ad' : Option Addr} {cap cap' : Nat} {rs ms : List α} {x : α} (hf : ∀ x, (f x).length = m) (h : Gw w T m f adr rs ad cap ms) (ho : OwnS w' T m ad' (ms.length + 1) cap' (ms.flatMap f ++ f x)) (hk : Kp (blkOf ad) w w') (hn : ad' = ad ∨ (Kp [] w w' ∧ ∀ b, b ∈ blkOf ad' → w.heap.size ≤ b)) :
    Gw w' T m f adr rs ad' cap' (ms ++ [x]) := by
  have ho' : OwnS w' T m ad' (ms ++ [x]).length cap' ((ms ++ [x]).flatMap f) := by rw [List.length_append, List.flatMap_append]; simpa using ho
  have hle : rs.length ≤ ms.length := by have := congrArg List.length h.pre; rw [List.length_take] at this; omega
  have hpre : rs = (ms ++ [x]).take rs.length := by rw [List.take_append_of_le_length hle]; exact h.pre
  have hlt : ∀ b, b ∈ blkOf adr → b < w'.heap.size := fun b hb => Nat.lt_of_lt_of_le (h.lt b hb) hk.size
  rcases hn with rfl | ⟨k0, hn⟩
  · refine ⟨ho', ?_, hpre, h.dis, hlt⟩
    rcases h.dis with rfl | hd
    · rw [hpre, flatMap_take hf]; exact ho'.readN.take _
    · exact h.read.kp hk (fun b hb hb2 => hd b hb2 hb)
  · exact ⟨ho', h.read.kp k0 (by simp), hpre, .inr (fun b hb hb2 => by have := hn b hb; have := h.lt b hb2; omega), hlt⟩
end
section
variable {n : Nat} {a : Act} {e : Env} {K : EPost} {all : List Oper} {G : List Nat} {ro : Option Nat} {dst : Option Tmp} {ty : TypeId} {pos : String} {after : Array Edge} {g : Option (Nat × Bool)} {l : List Oper} {t : TypeId} {x y : Operand}
/-- a row, perhaps empty, appended to nothing -/
theorem o_cloneR {T : TypeId} {td : TypeDesc} {tn : String} {size tby : Nat} {thp : Bool} {tal tfa : Nat} {z : Value} {tcm : Bool} {tms : Array Method} {nad : Option Addr} {k ncap : Nat} (xs : List Value)
    (hx : ev e x = .slice none 0 0) (hy : ev e y = .slice nad k ncap) (hr : ReadS w nad xs) (hk : xs.length = k * size) (h1 : ∀ v ∈ xs, v.oneCell' = true)
    (hu : P.underlying t = some (.slice T)) (hi : P.info? T = some ⟨td, tn, size, tby, thp, tal, tfa, some z, tcm, tms⟩) (hzs : z.cells.size = size) (hsz : 0 < size) (h63 : k ≤ maxLen) (hby : k * tby ≤ 140737488355328) (hd : dOk n dst = true) (hm : may all G e g = some true)
    (kk : ∀ ad' cap' w', OwnS w' T size ad' k cap' xs → Kp [] w w' → (∀ b, b ∈ blkOf ad' → w.heap.size ≤ b) → Ops ro P n all G K l (put e dst (.slice ad' k cap')) w') :
    Ops ro P n all G K (⟨dst, .call ⟨.builtin .append, #[x, y], #[t, t]⟩, ty, pos, after, g⟩ :: l) e w := by
  by_cases h0 : k = 0
  · subst h0
    have hxs : xs = [] := List.eq_nil_of_length_eq_zero (by omega)
    subst hxs
    exact o_append0 hx hy (Nat.le_refl _) hu hi hd hm (kk none 0 w (ownS_nil _ _ _) (Kp.refl _ _) (by simp [blkOf]))
  · have hpos : 0 < xs.length := by rw [hk]; exact Nat.mul_pos (by omega) hsz
    obtain ⟨b, off, rfl, _, _⟩ := hr.at_ hpos
    refine o_append xs hx hy (ownS_nil w T size) (fun j v hv => hr j v hv) hu hi hzs hsz hk (by omega) h1 (by omega) (by rw [Nat.zero_add]; exact hby) hd hm ?_
    intro ad' cap' w' ho hk' hn
    have e0 : 0 + k = k := Nat.zero_add k
    rw [e0] at ho ⊢
    exact kk ad' cap' w' ho hk' (fun b hb => by
      rcases hn b hb with q | q
      · simp [blkOf] at q
      · exact q)
end
end Go.Vc
/- lockset: LocksetKeeps. -/
namespace Go.Vc
open Go Go.Proofs
set_option maxRecDepth 10000
variable {w : World}
section
variable {P : Program} {n : Nat} {a : Act} {e : Env} {K : EPost} {all : List Oper} {G : List Nat} {ro : Option Nat} {dst : Option Tmp} {ty : TypeId} {pos : String} {after : Array Edge} {g : Option (Nat × Bool)} {l : List Oper} {t : TypeId} {x y : Operand}
end
/-- the locks told last of a variable -/
def LastC (W : World) (B : List Nat) (bl : List Nat) : Option (List Nat) → Value → Prop
  | none, c => c = .slice none 0 0
  | some K, c => ∃ b cap, c = .slice (some ⟨b, 0, none⟩) (K.length + 1) cap ∧ b ∈ B ∧ b ∉ bl ∧ ReadS W (some ⟨b, 0, none⟩) (I (-1) :: K.map encI)
structure LastS (w0 W : World) (g : KG) (B : List Nat) (ad : Option Addr) (cap : Nat) (cs : List Value) (V : List LV) : Prop where
  len : cs.length = V.length
  own : OwnS W 22 1 ad V.length cap cs
  c : ∀ (n : Nat) v x, V[n]? = some v → cs[n]? = some x → LastC W B (blkOf ad) v.kp x
  inB : ∀ b, b ∈ blkOf ad → b ∈ B
  lo : ∀ b, b ∈ B → w0.heap.size ≤ b
  hi : ∀ b, b ∈ B → b < W.heap.size
  out : ∀ b, b ∈ B → ¬ g.In b
theorem LastC.kq {W W' : World} {S : Nat → Prop} {B bl : List Nat} {k : Option (List Nat)} {x : Value} (h : LastC W B bl k x) (hk : Kq S W W') (hS : ∀ b, b ∈ B → ¬ S b) : LastC W' B bl k x := by
  cases k with
  | none => exact h
  | some K =>
    obtain ⟨b, cap, h1, h2, h3, h4⟩ := h
    exact ⟨b, cap, h1, h2, h3, h4.kq hk (fun b' hb' => by
      have e : b' = b := by simpa [blkOf] using hb'
      rw [e]; exact hS b h2)⟩
theorem OwnS.kq {T : TypeId} {size : Nat} {ad : Option Addr} {n cap : Nat} {xs : List Value} {w' : World} (h : OwnS w T size ad n cap xs) {S : Nat → Prop} (hk : Kq S w w') (hd : ∀ b, b ∈ blkOf ad → ¬ S b) : OwnS w' T size ad n cap xs :=
  h.keep fun b hb => hk.at_ b (h.lt b hb) (hd b hb)
theorem LastS.kq {w0 W W' : World} {g : KG} {B : List Nat} {ad : Option Addr} {cap : Nat} {cs : List Value} {V : List LV} {S : Nat → Prop} (h : LastS w0 W g B ad cap cs V) (hk : Kq S W W') (hS : ∀ b, b ∈ B → ¬ S b) : LastS w0 W' g B ad cap cs V :=
  ⟨h.len, h.own.kq hk (fun b hb => hS b (h.inB b hb)), fun n v x hv hx => (h.c n v x hv hx).kq hk hS, h.inB, h.lo, fun b hb => Nat.lt_of_lt_of_le (h.hi b hb) hk.size, h.out⟩
theorem LastS.kp0 {w0 W W' : World} {g : KG} {B : List Nat} {ad : Option Addr} {cap : Nat} {cs : List Value} {V : List LV} (h : LastS w0 W g B ad cap cs V) (hk : Kp [] W W') : LastS w0 W' g B ad cap cs V :=
  h.kq (S := fun _ => False) (hk.kq (by simp)) (fun _ _ hf => hf)
theorem LastS.to {w0 W W' : World} {g g' : KG} {B : List Nat} {ad : Option Addr} {cap : Nat} {cs : List Value} {V : List LV} (h : LastS w0 W g B ad cap cs V) (t : KTo W g W' g') : LastS w0 W' g' B ad cap cs V := by
  have := h.kq t.kq h.out
  exact ⟨this.len, this.own, this.c, this.inB, this.lo, this.hi, fun b hb hin => by
    rcases t.new b hin with q | q
    · exact h.out b hb q
    · have := h.hi b hb; omega⟩
theorem LastS.setV {w0 W : World} {g : KG} {B : List Nat} {ad : Option Addr} {cap : Nat} {cs : List Value} {V V' : List LV} (h : LastS w0 W g B ad cap cs V) (hl : V'.length = V.length) (hc : ∀ (n : Nat) v', V'[n]? = some v' → ∃ v, V[n]? = some v ∧ v.kp = v'.kp) : LastS w0 W g B ad cap cs V' :=
  ⟨by rw [hl]; exact h.len, by rw [hl]; exact h.own, fun n v' x hv hx => by
    obtain ⟨v, h1, h2⟩ := hc n v' hv
    rw [← h2]; exact h.c n v x h1 hx, h.inB, h.lo, h.hi, h.out⟩
theorem Kq.bk {S : Nat → Prop} {w' : World} (h : Kq S w w') {b : Nat} {L : List Value} {T : TypeId} (hn : ¬ S b) (hb : Blk w b L T) : Blk w' b L T := by
  have e := h.at_ b hb.lt hn
  unfold Blk at hb ⊢
  rw [e]; exact hb
theorem OgOk.small {o : Option SG} (h : OgOk w o) : (oL o).length ≤ 1048576 := by
  cases o with
  | none => show ([] : List Nat).length ≤ _; simp
  | some y =>
    have h1 := (h y rfl).at_.len
    have h2 := elems_len y.ws
    show (elems y.ws).length ≤ _
    omega
end Go.Vc
