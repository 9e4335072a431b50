/- rows of records that grow by append, the old row still told. -/
import Derived.Test.YtkgjibhbhddckaaDoorQClKeeps40
import Derived.Test.YtkgjibhbhddckaaDoorQClKeeps32
import Derived.Test.YtkgjibhbhddckaaDoorQClKeeps7
import Derived.Test.YtkgjibhbhddckaaDoorQClKeeps39
import Derived.Test.YtkgjibhbhddckaaDoorQClKeeps38
namespace Go.Vc
open Go
variable {P : Program} {w : World}
section
variable {α : Type} {f : α → List Value} {m : Nat} {T : TypeId}
/-- the row ad grew out of the row adr, which still tells rs -/
structure Gw (w : World) (T : TypeId) (m : Nat) (f : α → List Value) (adr : Option Addr) (rs : List α) (ad : Option Addr) (cap : Nat) (ms : List α) : Prop where
  own : OwnS w T m ad ms.length cap (ms.flatMap f)
  read : ReadS w adr (rs.flatMap f)
  pre : rs = ms.take rs.length
  dis : ad = adr ∨ ∀ b, b ∈ blkOf ad → b ∉ blkOf adr
  lt : ∀ b, b ∈ blkOf adr → b < w.heap.size
theorem Gw.of {adr : Option Addr} {cap : Nat} {rs : List α} (h : OwnS w T m adr rs.length cap (rs.flatMap f)) : Gw w T m f adr rs adr cap rs :=
  ⟨h, h.readN, (List.take_length).symm, .inl rfl, h.lt⟩
theorem Gw.kp {w' : World} {S : List Nat} {adr ad : Option Addr} {cap : Nat} {rs ms : List α} (h : Gw w T m f adr rs ad cap ms) (hk : Kp S w w') (h1 : ∀ b, b ∈ blkOf ad → b ∉ S) (h2 : ∀ b, b ∈ blkOf adr → b ∉ S) : Gw w' T m f adr rs ad cap ms :=
  ⟨h.own.kp hk h1, h.read.kp hk h2, h.pre, h.dis, fun b hb => Nat.lt_of_lt_of_le (h.lt b hb) hk.size⟩
theorem flatMap_take (hf : ∀ x, (f x).length = m) : ∀ (l : List α) (k : Nat), (l.take k).flatMap f = (l.flatMap f).take (k * m)
  | [], k => by simp
  | x :: r, 0 => by simp
  | x :: r, k + 1 => by
    have e1 : (k + 1) * m - (f x).length = k * m := by rw [hf, Nat.add_mul]; omega
    have e2 : (f x).length ≤ (k + 1) * m := by rw [hf, Nat.add_mul]; omega
    rw [List.take_succ_cons, List.flatMap_cons, List.flatMap_cons, flatMap_take hf r k, List.take_append, e1, List.take_of_length_le e2]
theorem Gw.push {w' : World} {adr ad ad' : Option Addr} {cap cap' : Nat} {rs ms : List α} {x : α} (hf : ∀ x, (f x).length = m) (h : Gw w T m f adr rs ad cap ms) (ho : OwnS w' T m ad' (ms.length + 1) cap' (ms.flatMap f ++ f x)) (hk : Kp (blkOf ad) w w') (hn : ad' = ad ∨ (Kp [] w w' ∧ ∀ b, b ∈ blkOf ad' → w.heap.size ≤ b)) :
    Gw w' T m f adr rs ad' cap' (ms ++ [x]) := by
  have ho' : OwnS w' T m ad' (ms ++ [x]).length cap' ((ms ++ [x]).flatMap f) := by rw [List.length_append, List.flatMap_append]; simpa using ho
  have hle : rs.length ≤ ms.length := by have := congrArg List.length h.pre; rw [List.length_take] at this; omega
  have hpre : rs = (ms ++ [x]).take rs.length := by rw [List.take_append_of_le_length hle]; exact h.pre
  have hlt : ∀ b, b ∈ blkOf adr → b < w'.heap.size := fun b hb => Nat.lt_of_lt_of_le (h.lt b hb) hk.size
  rcases hn with rfl | ⟨k0, hn⟩
  · refine ⟨ho', ?_, hpre, h.dis, hlt⟩
    rcases h.dis with rfl | hd
    · rw [hpre, flatMap_take hf]; exact ho'.readN.take _
    · exact h.read.kp hk (fun b hb hb2 => hd b hb2 hb)
  · exact ⟨ho', h.read.kp k0 (by simp), hpre, .inr (fun b hb hb2 => by have := hn b hb; have := h.lt b hb2; omega), hlt⟩
end
section
variable {n : Nat} {a : Act} {e : Env} {K : EPost} {all : List Oper} {G : List Nat} {ro : Option Nat} {dst : Option Tmp} {ty : TypeId} {pos : String} {after : Array Edge} {g : Option (Nat × Bool)} {l : List Oper} {t : TypeId} {x y : Operand}
end
end Go.Vc
/- lockset: LocksetKeeps. -/
namespace Go.Vc
open Go Go.Proofs
set_option maxRecDepth 10000
variable {w : World}
section
variable {P : Program} {n : Nat} {a : Act} {e : Env} {K : EPost} {all : List Oper} {G : List Nat} {ro : Option Nat} {dst : Option Tmp} {ty : TypeId} {pos : String} {after : Array Edge} {g : Option (Nat × Bool)} {l : List Oper} {t : TypeId} {x y : Operand}
/-- append of a row that may be empty -/
theorem o_appendR {T : TypeId} {td : TypeDesc} {tn : String} {size tby : Nat} {thp : Bool} {tal tfa : Nat} {z : Value} {tcm : Bool} {tms : Array Method}
    {ad ay : Option Addr} {k cap m cy : Nat} {xs : List Value} (news : List Value)
    (hx : ev e x = .slice ad k cap) (hy : ev e y = .slice ay m cy) (ho : OwnS w T size ad k cap xs) (hn : ReadS w ay news)
    (hu : P.underlying t = some (.slice T)) (hi : P.info? T = some ⟨td, tn, size, tby, thp, tal, tfa, some z, tcm, tms⟩) (hzs : z.cells.size = size) (hsz : 0 < size)
    (hl : news.length = m * size) (h1 : ∀ v ∈ news, v.oneCell' = true) (h63 : k + m ≤ maxLen) (hby : (k + m) * tby ≤ 140737488355328) (hd : dOk n dst = true) (hm : may all G e g = some true)
    (kk : ∀ ad' cap' w', OwnS w' T size ad' (k + m) cap' (xs ++ news) → Kp (blkOf ad) w w' → (∀ b, b ∈ blkOf ad' → b ∈ blkOf ad ∨ w.heap.size ≤ b) → Ops ro P n all G K l (put e dst (.slice ad' (k + m) cap')) w') :
    Ops ro P n all G K (⟨dst, .call ⟨.builtin .append, #[x, y], #[t, t]⟩, ty, pos, after, g⟩ :: l) e w := by
  by_cases h0 : m = 0
  · subst h0
    have hxs : news = [] := List.eq_nil_of_length_eq_zero (by omega)
    subst hxs
    exact o_append0 hx hy ho.le_cap hu hi hd hm (kk ad cap w (by rw [List.append_nil]; exact ho) (Kp.refl _ _) (fun b hb => .inl hb))
  · have hpos : 0 < news.length := by rw [hl]; exact Nat.mul_pos (by omega) hsz
    obtain ⟨b, off, rfl, _, _⟩ := hn.at_ hpos
    exact o_append news hx hy ho (fun j v hv => hn j v hv) hu hi hzs hsz hl (by omega) h1 h63 hby hd hm kk
end
theorem within23_yes {ad1 ad2 : Option Addr} {l1 l2 : List Int} {n1 n2 c1 c2 : Nat} (h1 : ReadS w ad1 (l1.map I)) (h2 : ReadS w ad2 (l2.map I)) (e1 : l1.length = n1) (e2 : l2.length = n2) (hs : ∀ x ∈ l1, x ∈ l2) (hl1 : n1 ≤ 9223372036854775807) (hl2 : n2 ≤ 9223372036854775807) :
    Ret Tryd.prog 27 [.slice ad1 n1 c1, .slice ad2 n2 c2] w (fun v w' => v = .bool true ∧ Sm w w') := by
  subst e1 e2
  refine enter Tryd.call27 Tryd.func27 rfl rfl rfl rfl ?_
  (repeat first|refine zA ?_|refine zB ?_|refine zg ?_|refine zo rfl rfl trivial ?_|refine zn ?_|refine zb ?_)
  refine r_loop (α := Nat) [0, 1, 5] (fun i => [.slice ad1 l1.length c1, .slice ad2 l2.length c2, I i]) (fun i w1 => Sm w w1 ∧ i ≤ l1.length) (fun i => l1.length - i) 0 rfl ⟨Sm.refl _, by omega⟩ ?_
  rintro i e w1 ⟨hs1, hi⟩
  (repeat first|refine zA ?_|refine zB ?_|refine zg ?_|refine zo rfl rfl trivial ?_|refine zn ?_)
  refine r_if rfl (fun hc => ?_) (fun hc => ?_)
  · have hlt : i < l1.length := by omega
    obtain ⟨b1, o1, rfl, _, hc1⟩ := h1.at_ (by simp; omega)
    have g1 : ∀ w', Sm w w' → w'.cell? ⟨b1, o1 + i, none⟩ = some (I l1[i]) := fun w' hs => by
      rw [← hc1 i (I l1[i]) (by simp [hlt])]; exact World.cell?_of_block (by rw [hs.heap])
    have hmem : l1[i] ∈ l2 := hs _ (List.getElem_mem hlt)
    (repeat first|refine zA ?_|refine zB ?_|refine zC ?_|refine zg ?_|refine zo rfl rfl trivial ?_|refine zn ?_|refine zb ?_|refine zk ?_)
    refine r_loop (α := Nat) [0, 1, 5, 6, 7] (fun j => [.slice (some ⟨b1, o1, none⟩) l1.length c1, .slice ad2 l2.length c2, I i, .bool ((l2.take j).any fun y => decide (l1[i] = y)), I j]) (fun j w2 => Sm w w2 ∧ j ≤ l2.length) (fun j => l2.length - j) 0 rfl ⟨hs1, by omega⟩ ?_
    rintro j e w2 ⟨hs2, hj⟩
    (repeat first|refine zA ?_|refine zB ?_|refine zg ?_|refine zo rfl rfl trivial ?_|refine zn ?_)
    refine r_if rfl (fun hc2 => ?_) (fun hc2 => ?_)
    · have hlt2 : j < l2.length := by omega
      obtain ⟨b2, o2, rfl, _, hc2⟩ := h2.at_ (by simp; omega)
      have g2 : ∀ w', Sm w w' → w'.cell? ⟨b2, o2 + j, none⟩ = some (I l2[j]) := fun w' hs => by
        rw [← hc2 j (I l2[j]) (by simp [hlt2])]; exact World.cell?_of_block (by rw [hs.heap])
      have htk : (l2.take (j + 1)).any (fun y => decide (l1[i] = y)) = ((l2.take j).any (fun y => decide (l1[i] = y)) || decide (l1[i] = l2[j])) := by
        have e3 : l2.take (j + 1) = l2.take j ++ [l2[j]] := by rw [List.take_add_one, List.getElem?_eq_getElem hlt2]; rfl
        rw [e3, List.any_append]
        simp only [List.any_cons, List.any_nil, Bool.or_false]
      (repeat first|refine zC ?_|refine zb ?_|refine zk ?_)
      refine r_cut (α := Unit) [0, 1, 5, 6, 7] (fun _ => [.slice (some ⟨b1, o1, none⟩) l1.length c1, .slice (some ⟨b2, o2, none⟩) l2.length c2, I i, .bool ((l2.take (j + 1)).any fun y => decide (l1[i] = y)), I j]) (fun _ w' => Sm w2 w') ?_ ?_
      · rw [htk]
        generalize (l2.take j).any (fun y => decide (l1[i] = y)) = bt
        refine r_quietS follows_mixed (by kernel_rfl) ?_
        cases bt with
        | true =>
          (repeat first|refine yo rfl rfl trivial ?_|refine yn ?_|refine q_know _ _ (some true) rfl rfl rfl ?_)
          intro W' s
          exact ⟨(), rfl, s⟩
        | false =>
          (repeat first|refine yo rfl rfl (by first|exact trivial|(simp only[AllP];omega)) ?_|refine q_know _ _ (some false) rfl rfl rfl ?_)
          refine q_load rfl (fun W' s => g1 W' (hs2.trans s)) rfl rfl rfl rfl ?_
          (repeat refine yo rfl rfl (by first|exact trivial|(simp only[AllP];omega)) ?_)
          refine q_load rfl (fun W' s => g2 W' (hs2.trans s)) rfl rfl rfl rfl ?_
          (repeat first|refine yo rfl rfl trivial ?_|refine yn ?_)
          intro W' s
          exact ⟨(), rfl, s⟩
      rintro _ e w3 s3
      (repeat first|refine zg ?_|refine zo rfl rfl (by first|exact trivial|(simp only[AllP];omega)) ?_|refine zn ?_)
      exact ⟨j + 1, rfl, ⟨hs2.trans s3, by omega⟩, by omega⟩
    · have : j = l2.length := by omega
      subst this
      have hany : (l2.take l2.length).any (fun y => decide (l1[i] = y)) = true := by rw [List.take_length]; exact List.any_eq_true.2 ⟨_, hmem, by simp⟩
      rw [hany]
      (repeat first|refine zA ?_|refine zg ?_|refine zo rfl rfl (by first|exact trivial|(simp only[AllP];omega)) ?_|refine zn ?_|refine ze rfl ?_|refine zk ?_|refine zf rfl ?_)
      exact ⟨i + 1, rfl, ⟨hs2, by omega⟩, by omega⟩
  · (repeat first|refine zA ?_|refine zg ?_|refine zo rfl rfl trivial ?_|refine zn ?_|refine ze rfl ?_|refine zr ?_)
    exact ⟨_, rfl, rfl, hs1⟩
/-- the locks told last of a variable -/
def LastC (W : World) (B : List Nat) (bl : List Nat) : Option (List Nat) → Value → Prop
  | none, c => c = .slice none 0 0
  | some K, c => ∃ b cap, c = .slice (some ⟨b, 0, none⟩) (K.length + 1) cap ∧ b ∈ B ∧ b ∉ bl ∧ ReadS W (some ⟨b, 0, none⟩) (I (-1) :: K.map encI)
structure LastS (w0 W : World) (g : KG) (B : List Nat) (ad : Option Addr) (cap : Nat) (cs : List Value) (V : List LV) : Prop where
  len : cs.length = V.length
  own : OwnS W 22 1 ad V.length cap cs
  c : ∀ (n : Nat) v x, V[n]? = some v → cs[n]? = some x → LastC W B (blkOf ad) v.kp x
  inB : ∀ b, b ∈ blkOf ad → b ∈ B
  lo : ∀ b, b ∈ B → w0.heap.size ≤ b
  hi : ∀ b, b ∈ B → b < W.heap.size
  out : ∀ b, b ∈ B → ¬ g.In b
theorem LastC.kq {W W' : World} {S : Nat → Prop} {B bl : List Nat} {k : Option (List Nat)} {x : Value} (h : LastC W B bl k x) (hk : Kq S W W') (hS : ∀ b, b ∈ B → ¬ S b) : LastC W' B bl k x := by
  cases k with
  | none => exact h
  | some K =>
    obtain ⟨b, cap, h1, h2, h3, h4⟩ := h
    exact ⟨b, cap, h1, h2, h3, h4.kq hk (fun b' hb' => by
      have e : b' = b := by simpa [blkOf] using hb'
      rw [e]; exact hS b h2)⟩
theorem OwnS.kq {T : TypeId} {size : Nat} {ad : Option Addr} {n cap : Nat} {xs : List Value} {w' : World} (h : OwnS w T size ad n cap xs) {S : Nat → Prop} (hk : Kq S w w') (hd : ∀ b, b ∈ blkOf ad → ¬ S b) : OwnS w' T size ad n cap xs :=
  h.keep fun b hb => hk.at_ b (h.lt b hb) (hd b hb)
theorem LastS.kq {w0 W W' : World} {g : KG} {B : List Nat} {ad : Option Addr} {cap : Nat} {cs : List Value} {V : List LV} {S : Nat → Prop} (h : LastS w0 W g B ad cap cs V) (hk : Kq S W W') (hS : ∀ b, b ∈ B → ¬ S b) : LastS w0 W' g B ad cap cs V :=
  ⟨h.len, h.own.kq hk (fun b hb => hS b (h.inB b hb)), fun n v x hv hx => (h.c n v x hv hx).kq hk hS, h.inB, h.lo, fun b hb => Nat.lt_of_lt_of_le (h.hi b hb) hk.size, h.out⟩
theorem LastS.kp0 {w0 W W' : World} {g : KG} {B : List Nat} {ad : Option Addr} {cap : Nat} {cs : List Value} {V : List LV} (h : LastS w0 W g B ad cap cs V) (hk : Kp [] W W') : LastS w0 W' g B ad cap cs V :=
  h.kq (S := fun _ => False) (hk.kq (by simp)) (fun _ _ hf => hf)
theorem LastS.to {w0 W W' : World} {g g' : KG} {B : List Nat} {ad : Option Addr} {cap : Nat} {cs : List Value} {V : List LV} (h : LastS w0 W g B ad cap cs V) (t : KTo W g W' g') : LastS w0 W' g' B ad cap cs V := by
  have := h.kq t.kq h.out
  exact ⟨this.len, this.own, this.c, this.inB, this.lo, this.hi, fun b hb hin => by
    rcases t.new b hin with q | q
    · exact h.out b hb q
    · have := h.hi b hb; omega⟩
theorem LastS.setV {w0 W : World} {g : KG} {B : List Nat} {ad : Option Addr} {cap : Nat} {cs : List Value} {V V' : List LV} (h : LastS w0 W g B ad cap cs V) (hl : V'.length = V.length) (hc : ∀ (n : Nat) v', V'[n]? = some v' → ∃ v, V[n]? = some v ∧ v.kp = v'.kp) : LastS w0 W g B ad cap cs V' :=
  ⟨by rw [hl]; exact h.len, by rw [hl]; exact h.own, fun n v' x hv hx => by
    obtain ⟨v, h1, h2⟩ := hc n v' hv
    rw [← h2]; exact h.c n v x h1 hx, h.inB, h.lo, h.hi, h.out⟩
theorem warned_mem {V : List LV} {z : Nat × Int} (h : z ∈ warnedL V) : ∃ v, V[z.1]? = some v ∧ v.wa = true := by
  unfold warnedL at h
  obtain ⟨i, hi, h2⟩ := List.mem_filterMap.1 h
  split at h2
  · rename_i v hv
    split at h2
    · rename_i hw
      simp at h2; subst h2
      exact ⟨v, hv, hw⟩
    · cases h2
  · cases h2
theorem Kq.bk {S : Nat → Prop} {w' : World} (h : Kq S w w') {b : Nat} {L : List Value} {T : TypeId} (hn : ¬ S b) (hb : Blk w b L T) : Blk w' b L T := by
  have e := h.at_ b hb.lt hn
  unfold Blk at hb ⊢
  rw [e]; exact hb
theorem OgOk.small {o : Option SG} (h : OgOk w o) : (oL o).length ≤ 1048576 := by
  cases o with
  | none => show ([] : List Nat).length ≤ _; simp
  | some y =>
    have h1 := (h y rfl).at_.len
    have h2 := elems_len y.ws
    show (elems y.ws).length ≤ _
    omega
end Go.Vc
