/- A symbolic executor over the model's wp: rows of elements of many cells. -/
import Derived.Test.YtkmplcpibgnjcaaSxC
namespace Go.Sx
open Go.RowKit

/-- a row of elements of k cells each -/
def Row (H : Hp) (k : Nat) (A : Option Addr) (xs : List (List Value)) : Prop :=
  ∀ (i : Nat) (x : List Value), xs[i]? = some x → ∃ ad, A = some ad ∧ x.length = k ∧ ∀ (j : Nat) (v : Value), x[j]? = some v → hat H (ad.add (i * k)) j = some v
theorem hat_spot {H : Hp} {ad : Addr} {j : Nat} {v : Value} (h : hat H ad j = some v) : ad.spot = none := by
  unfold hat at h
  split at h
  · assumption
  · cases h
theorem hat_add {H : Hp} {ad : Addr} (hs : ad.spot = none) {m j : Nat} : hat H (ad.add m) j = hat H ad (m + j) := by
  unfold hat Addr.add
  obtain ⟨b, o, s⟩ := ad
  simp only at hs
  subst hs
  by_cases h : m = 0 <;> simp [h, Nat.add_assoc]
theorem Row.mono {H H' : Hp} {k : Nat} {A : Option Addr} {xs : List (List Value)} (h : Row H k A xs) (hle : Hp.le H H') : Row H' k A xs := fun i x hx => by
  obtain ⟨ad, h1, h2, h3⟩ := h i x hx
  exact ⟨ad, h1, h2, fun j v hv => hat_mono hle (h3 j v hv)⟩
theorem flatten_at {k : Nat} : ∀ {xs : List (List Value)} (_ : ∀ x ∈ xs, x.length = k) (i j : Nat), j < k → xs.flatten[i * k + j]? = (xs[i]?).bind fun x => x[j]?
  | [], _, i, j, _ => by simp
  | x :: xs, h, i, j, hj => by
    have hx := h x List.mem_cons_self
    cases i with
    | zero => rw [List.flatten_cons, List.getElem?_append_left (by omega)]; simp
    | succ i =>
      rw [List.flatten_cons, List.getElem?_append_right (by rw [Nat.add_mul]; omega), show (i + 1) * k + j - x.length = i * k + j by rw [Nat.add_mul]; omega]
      rw [flatten_at (fun y hy => h y (List.mem_cons_of_mem _ hy)) i j hj]
      simp
theorem flatten_len {k : Nat} : ∀ {xs : List (List Value)} (_ : ∀ x ∈ xs, x.length = k), xs.flatten.length = xs.length * k
  | [], _ => by simp
  | x :: xs, h => by
    rw [List.flatten_cons, List.length_append, flatten_len (fun y hy => h y (List.mem_cons_of_mem _ hy)), h x List.mem_cons_self, List.length_cons, Nat.add_mul]; omega

theorem Row.rw {H : Hp} {k : Nat} (hk : 0 < k) {A : Option Addr} {xs : List (List Value)} (hl : ∀ x ∈ xs, x.length = k) (h : Row H k A xs) : Rw H k A xs.length xs.flatten := by
  refine ⟨flatten_len hl, fun j v hv => ?_⟩
  have e : j = j / k * k + j % k := by rw [Nat.mul_comm]; exact (Nat.div_add_mod j k).symm
  rw [e, flatten_at hl _ _ (Nat.mod_lt _ hk), Option.bind_eq_some_iff] at hv
  obtain ⟨x, hx, hv⟩ := hv
  obtain ⟨ad, h1, h2, h3⟩ := h _ _ hx
  have hi : 0 < xs.length := Nat.lt_of_le_of_lt (Nat.zero_le _) (List.getElem?_eq_some_iff.1 hx).1
  obtain ⟨ad0, k1, k2, k3⟩ := h 0 _ (List.getElem?_eq_getElem hi)
  rw [h1] at k1; cases k1
  have hs := k3 0 _ (List.getElem?_eq_getElem (by omega))
  rw [Nat.zero_mul, show ad.add 0 = ad by simp [Addr.add]] at hs
  have := h3 _ _ hv
  rw [hat_add (hat_spot hs), ← e] at this
  exact ⟨ad, h1, this⟩
theorem Rw.row {H : Hp} {k : Nat} {A : Option Addr} {n : Nat} {xs : List (List Value)} (hl : ∀ x ∈ xs, x.length = k) (hk : 0 < k) (h : Rw H k A n xs.flatten) : Row H k A xs := by
  intro i x hx
  have hxl := hl x (List.mem_of_getElem? hx)
  have at_ : ∀ j, j < k → xs.flatten[i * k + j]? = x[j]? := fun j hj => by rw [flatten_at hl i j hj, hx]; rfl
  have h0 := at_ 0 hk
  rw [List.getElem?_eq_getElem (show 0 < x.length by omega)] at h0
  obtain ⟨ad, h1, _⟩ := h.2 _ _ h0
  refine ⟨ad, h1, hxl, fun j v hv => ?_⟩
  have hj : j < k := by rw [← hxl]; exact (List.getElem?_eq_some_iff.1 hv).1
  obtain ⟨ad', h2, h3⟩ := h.2 (i * k + j) v (by rw [at_ j hj, hv])
  rw [h1] at h2; cases h2
  rw [hat_add (hat_spot h3)]; exact h3

theorem w64 {n : Int} (h : -9223372036854775808 ≤ n) (h' : n ≤ 9223372036854775807) : IntKind.i64.wrap n = n := by
  unfold IntKind.wrap; simp [IntKind.bits, IntKind.signed]; omega
theorem AppNext.same {G G' : Gh} {k : Nat} {e : TypeId} {A A' : Option Addr} {n c c' m : Nat} {xs ys : List Value} (h : AppNext G k e A n c m xs ys A' c' G') : G'.w0 = G.w0 ∧ G'.M = G.M ∧ G'.H0 = G.H0 := by
  rcases h with ⟨_, _, _, rfl⟩ | ⟨b, _, _, _, _, _, rfl⟩ | ⟨b, _, _, _, rfl⟩ <;> exact ⟨rfl, rfl, rfl⟩
/-- a slice that may be appended to -/
def Own (G : Gh) (A : Option Addr) (n c k : Nat) (e : TypeId) : Prop := (A = none ∧ n = 0 ∧ c = 0) ∨ ∃ b, A = some ⟨b, 0, none⟩ ∧ ⟨b, n, c, k, e⟩ ∈ G.R
theorem AppNext.own {G G' : Gh} {k : Nat} {e : TypeId} {A A' : Option Addr} {n c c' m : Nat} {xs ys : List Value} (h : AppNext G k e A n c m xs ys A' c' G') (ho : Own G A n c k e) : Own G' A' (n + m) c' k e := by
  rcases h with ⟨rfl, rfl, rfl, rfl⟩ | ⟨b, _, rfl, rfl, _, _, rfl⟩ | ⟨b, _, rfl, _, rfl⟩
  · exact ho
  · rename_i h1 _ _
    exact .inr ⟨b, h1, List.mem_cons_self⟩
  · exact .inr ⟨b, rfl, List.mem_cons_self⟩
theorem Row.nil {H : Hp} {k : Nat} {xs : List (List Value)} (h : Row H k none xs) : xs = [] := by
  cases xs with
  | nil => rfl
  | cons x xs => obtain ⟨ad, h1, _⟩ := h 0 x rfl; cases h1
theorem Rw.nil {H : Hp} {k : Nat} {A : Option Addr} : Rw H k A 0 [] := ⟨by simp, fun j v hv => by simp at hv⟩
end Go.Sx
