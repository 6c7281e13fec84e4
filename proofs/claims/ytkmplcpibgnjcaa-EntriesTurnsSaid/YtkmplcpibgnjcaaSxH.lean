/- A symbolic executor over the model's wp: appends, run. -/
import Derived.Test.YtkmplcpibgnjcaaSx9
namespace Go.Sx
open Go.RowKit

theorem ItOk.le {C : Code} {H H' : Hp} {its : List It} {bx : List (List CV)} (h : ItOk C H its bx) (hle : Hp.le H H') : ItOk C H' its bx := by
  obtain ⟨h1, h2⟩ := h
  refine ⟨h1, ?_⟩
  cases its with
  | nil => trivial
  | cons x k => cases x <;> first | trivial | exact ⟨h2.1, h2.2.1, Hp.le_trans h2.2.2.1 hle, h2.2.2.2⟩

theorem hat_cell {H : Hp} {w : World} (h : Agree H w) {ad : Addr} {j : Nat} {v : Value} (hh : hat H ad j = some v) : w.cell? (ad.add j) = some v := by
  unfold hat at hh
  split at hh
  case isFalse => cases hh
  rename_i hs
  have h3 := h _ _ _ hh
  have : ad.add j = ⟨ad.block, ad.off + j, none⟩ := by
    obtain ⟨b, o, s⟩ := ad
    simp only at hs; subst hs
    unfold Addr.add; split <;> simp_all
  rw [this]; exact h3
theorem Rw.cells {H : Hp} {w : World} (h : Agree H w) {k n : Nat} {ad : Addr} {xs : List Value} (hr : Rw H k (some ad) n xs) : ∀ j v, xs[j]? = some v → w.cell? (ad.add j) = some v := fun j v hv => by
  obtain ⟨a', h1, h2⟩ := hr.2 j v hv
  cases h1
  exact hat_cell h h2

theorem hat_mono {H H' : Hp} (hle : Hp.le H H') {ad : Addr} {j : Nat} {v : Value} (h : hat H ad j = some v) : hat H' ad j = some v := by
  unfold hat at *
  split at h
  · rename_i e; rw [if_pos e]; exact hle _ _ _ h
  · cases h
theorem Rw.mono {H H' : Hp} {k n : Nat} {A : Option Addr} {xs : List Value} (h : Rw H k A n xs) (hle : Hp.le H H') : Rw H' k A n xs :=
  ⟨h.1, fun j v hv => by obtain ⟨ad, h1, h2⟩ := h.2 j v hv; exact ⟨ad, h1, hat_mono hle h2⟩⟩

/-- what an append gives, in short -/
theorem AppNext.out {G G' : Gh} {k : Nat} {e : TypeId} {A A' : Option Addr} {n c c' m : Nat} {xs ys : List Value} (h : AppNext G k e A n c m xs ys A' c' G') {B : Option Addr} (hx : Rw G.H k A n xs) (hy : Rw G.H k B m ys)
    (hrow : ∀ b, A = some ⟨b, 0, none⟩ → ⟨b, n, c, k, e⟩ ∈ G.R → ∀ o, n * k ≤ o → G.H b o = none) (hnc : n ≤ c) :
    Rw G'.H k A' (n + m) (xs ++ ys) ∧ Hp.le G.H G'.H ∧ n + m ≤ c' ∧ (m = 0 ∧ A' = A ∧ c' = c ∧ G' = G ∨ ∃ b, A' = some ⟨b, 0, none⟩ ∧ ⟨b, n + m, c', k, e⟩ ∈ G'.R) ∧ G'.w0 = G.w0 ∧ G'.M = G.M ∧ G'.H0 = G.H0 := by
  rcases h with ⟨rfl, rfl, rfl, rfl⟩ | ⟨b, rfl, rfl, rfl, h1, h2, rfl⟩ | ⟨b, h1, rfl, h2, rfl⟩
  · have : ys = [] := List.eq_nil_of_length_eq_zero (by simpa using hy.1)
    subst this
    rw [List.append_nil]
    exact ⟨hx, Hp.le_refl _, hnc, .inl ⟨rfl, rfl, rfl, rfl⟩, rfl, rfl, rfl⟩
  · have hle : Hp.le G.H (G.H.add b (n * k) ys) := Hp.le_add (hrow b rfl h2)
    refine ⟨⟨by rw [List.length_append, hx.1, hy.1]; exact (Nat.add_mul ..).symm, fun j v hv => ⟨_, rfl, ?_⟩⟩, hle, h1, .inr ⟨b, rfl, List.mem_cons_self⟩, rfl, rfl, rfl⟩
    by_cases hj : j < xs.length
    · rw [List.getElem?_append_left hj] at hv
      obtain ⟨ad, h3, h4⟩ := hx.2 j v hv
      cases h3
      exact hat_mono hle h4
    · rw [List.getElem?_append_right (by omega)] at hv
      have := Hp.add_at (H := G.H) (b := b) (o := n * k) hv
      rw [hx.1] at this hj
      rw [show n * k + (j - n * k) = j by omega] at this
      simp only [hat, if_true, Nat.zero_add]
      exact this
  · have hle : Hp.le G.H (G.H.add b 0 (xs ++ ys)) := Hp.le_add fun o _ => h1 o
    refine ⟨⟨by rw [List.length_append, hx.1, hy.1]; exact (Nat.add_mul ..).symm, fun j v hv => ⟨_, rfl, ?_⟩⟩, hle, h2.1, .inr ⟨b, rfl, List.mem_cons_self⟩, rfl, rfl, rfl⟩
    have := Hp.add_at (H := G.H) (b := b) (o := 0) hv
    simp only [hat, if_true]
    exact this
section
variable {P : Program} {t e : TypeId} (hu : P.underlying t = some (.slice e)) {i : TypeInfo} (hi : P.info? e = some i)
include hu hi
theorem run_append_zero (ty : TypeId) (A B : Option Addr) (n c c' : Nat) (hn : n ≤ c) (w : World) :
    (Builtin.append_ #[t, t] ty #[.slice A n c, .slice B 0 c']).run P w = .ok (.slice A n c) w := by
  have hf : (Builtin.firstCells i.size 0 (.slice B 0 c')).run P w = .ok #[] w := by
    cases B <;> simp [Builtin.firstCells, loadCells, loadCellsFrom]
  cases A <;> simp [Builtin.append_, run_underlying hu, sizeOf, typeInfo, hi, Builtin.lenOf, hn, hf, storeCells]

theorem run_append_ints {z : Value} (hz : i.zero = some z) {t' : TypeId} {kd kd' : IntKind} (hu' : P.underlying t' = some (.int kd)) (hzs : z.cells.size = i.size) (ty : TypeId) (m : Int) (h0 : 0 < m) (h1 : m ≤ 1048576) (hby : i.bytes ≤ 1048576) (w : World) :
    ∃ cs c', (Builtin.append_ #[t, t'] ty #[.slice none 0 0, .int kd' m]).run P w = .ok (.slice (some ⟨w.heap.size, 0, none⟩) m.toNat c') (w.drew.alloc (.cells cs e)) ∧ m.toNat ≤ c' ∧ c' ≤ maxLen ∧ cs.size = c' * i.size := by
  have hw : IntKind.i64.wrap m = m := by
    unfold IntKind.wrap; simp [IntKind.bits, IntKind.signed]; omega
  have hb : m.toNat * i.bytes ≤ 1048576 * 1048576 := Nat.mul_le_mul (by omega) hby
  have h2 : ¬ (281474976710656 < m * (i.bytes : Int)) := by
    have : m * (i.bytes : Int) = ((m.toNat * i.bytes : Nat) : Int) := by rw [Int.natCast_mul, Int.toNat_of_nonneg (by omega)]
    rw [this]
    have : ((m.toNat * i.bytes : Nat) : Int) ≤ ((1048576 * 1048576 : Nat) : Int) := by exact_mod_cast hb
    omega
  have h48 : ¬ (281474976710656 < Builtin.nextslicecap m.toNat 0 * i.bytes) := by rw [nextslicecap_zero (by omega)]; omega
  have hm0 : ¬ m < 0 := by omega
  have hm1 : ¬ m ≤ 0 := by omega
  have h63' : ¬ ((9223372036854775807 : Int) < max m 0) := by omega
  have hai : ∀ w, (asInt (.int kd' m)).run P w = .ok m w := fun w => by simp [asInt, asIntOf]
  have hmx : IntKind.i64.max = 9223372036854775807 := rfl
  have hge := grownCap_ge w m.toNat 0 e
  have hle := grownCap_le_maxLen w m.toNat 0 e (by simp [maxLen]; omega)
  refine ⟨(if m.toNat * i.size = 0 then #[] else Builtin.zeroCells z.cells m.toNat) ++ Builtin.zeroCells z.cells (grownCap w m.toNat 0 e - m.toNat), grownCap w m.toNat 0 e, ?_, hge, hle, ?_⟩
  · by_cases hs : m.toNat * i.size = 0
    · simp [Builtin.append_, run_underlying hu, run_underlying hu', sizeOf, typeInfo, zeroValue, hi, hz, Builtin.lenOf, hw, hm0, h2, h48, hmx, Question.forced, Builtin.firstCells, newRow, grownCap, hs, hai, hm1, h63']
    · simp [Builtin.append_, run_underlying hu, run_underlying hu', sizeOf, typeInfo, zeroValue, hi, hz, Builtin.lenOf, hw, hm0, h2, h48, hmx, Question.forced, Builtin.firstCells, newRow, grownCap, hs, hai, hm1, h63']
  · by_cases hs : m.toNat * i.size = 0
    · have : i.size = 0 := by rcases Nat.mul_eq_zero.1 hs with h | h; omega; exact h
      simp [size_zeroCells, hzs, this]
    · rw [if_neg hs, Array.size_append, size_zeroCells, size_zeroCells, hzs, ← Nat.add_mul, Nat.add_sub_cancel' hge]
end
end Go.Sx
