/- Plain laws of logs: terms, merges. -/
import Derived.Test.YtkmplcpibgnjcaaE7
namespace Go.Sx

theorem LV.term_eq {l : LV} {i : Int} (hf : l.fine) (hi : In64 i) : l.term i = if i = l.b then (l.bt, true) else if l.b < i ∧ i ≤ l.b + l.n then (((l.es[(i - l.b - 1).toNat]?).getD .zero).term, true) else (0, false) := by
  unfold LV.term
  rw [LV.at_some hf hi]
  by_cases h : i = l.b
  · rw [if_pos h, if_pos h]
  · rw [if_neg h, if_neg h]
    by_cases h2 : l.b < i ∧ i ≤ l.b + l.n
    · rw [if_pos h2, if_pos h2]
    · rw [if_neg h2, if_neg h2]; rfl
/-- does the j-th entry agree with the log? -/
def agr (l : LV) (p : Int) (j : Nat) (e : Entry) : Prop := l.term (p + 1 + (j : Int)) = (e.term, true)
theorem agr_iff {l : LV} {p : Int} {j : Nat} {e : Entry} : ((l.term (p + 1 + (j : Int))).2 = true ∧ (l.term (p + 1 + (j : Int))).1 = e.term) ↔ agr l p j e := by
  unfold agr
  constructor
  · rintro ⟨h1, h2⟩; exact Prod.ext h2 h1
  · intro h; rw [h]; exact ⟨rfl, rfl⟩
theorem mism_none {l : LV} {p : Int} : ∀ (es : List Entry) (k : Nat), mism l p k es = none ↔ ∀ j e, es[j]? = some e → agr l p (k + j) e
  | [], k => by simp [mism]
  | e :: r, k => by
    have ih := mism_none (l := l) (p := p) r (k + 1)
    simp only [mism]
    by_cases h : agr l p k e
    · rw [if_pos (agr_iff.2 h), ih]
      constructor
      · intro hh j e' he
        cases j with
        | zero => simp at he; subst he; exact h
        | succ j => have := hh j e' (by simpa using he); rwa [show k + 1 + j = k + (j + 1) by omega] at this
      · intro hh j e' he
        have := hh (j + 1) e' (by simpa using he)
        rwa [show k + (j + 1) = k + 1 + j by omega] at this
    · rw [if_neg (fun hh => h (agr_iff.1 hh))]
      simp only [reduceCtorEq, false_iff]
      intro hh
      exact h (hh 0 e rfl)
theorem mism_some {l : LV} {p : Int} : ∀ (es : List Entry) (k q : Nat), mism l p k es = some q → ∃ j, q = k + j ∧ j < es.length ∧ (∀ e, es[j]? = some e → ¬ agr l p (k + j) e) ∧ ∀ i e, i < j → es[i]? = some e → agr l p (k + i) e
  | [], k, q, h => by simp [mism] at h
  | e :: r, k, q, h => by
    simp only [mism] at h
    by_cases h1 : agr l p k e
    · rw [if_pos (agr_iff.2 h1)] at h
      obtain ⟨j, h2, h3, h4, h5⟩ := mism_some r (k + 1) q h
      refine ⟨j + 1, by omega, by simp; omega, fun e' he => ?_, fun i e' hi he => ?_⟩
      · have := h4 e' (by simpa using he)
        rwa [show k + (j + 1) = k + 1 + j by omega]
      · cases i with
        | zero => simp at he; subst he; exact h1
        | succ i => have := h5 i e' (by omega) (by simpa using he); rwa [show k + (i + 1) = k + 1 + i by omega]
    · rw [if_neg (fun hh => h1 (agr_iff.1 hh))] at h
      cases h
      refine ⟨0, rfl, by simp, fun e' he => ?_, fun i e' hi => by omega⟩
      simp at he; subst he; exact h1
theorem agr_le {l : LV} {p : Int} {j : Nat} {e : Entry} (hf : l.fine) (hb : l.b ≤ p) (hp : p ≤ 1099512676352) (hj : j ≤ 1048576) (h : agr l p j e) : p + 1 + j ≤ l.b + l.n := by
  obtain ⟨g1, g2, g3⟩ := id hf
  unfold agr at h
  rw [LV.term_eq hf ⟨by omega, by omega⟩, if_neg (by omega)] at h
  split at h
  · rename_i h2; exact h2.2
  · simp at h
/-- what a merge leaves -/
structure Merged (l m : LV) (p : Int) (es : List Entry) : Prop where
  low : ∀ i, In64 i → i ≤ p → m.term i = l.term i
  up : ∀ j e, es[j]? = some e → agr m p j e
  len : p - l.b + es.length ≤ m.n
theorem term_of_at {l m : LV} (hf : l.fine) (hm : m.fine) (hb : m.b = l.b) (hbt : m.bt = l.bt) {i : Int} (hi : In64 i) (h1 : i ≤ l.b + l.n) (h2 : i ≤ m.b + m.n) (he : l.b < i → m.es[(i - l.b - 1).toNat]? = l.es[(i - l.b - 1).toNat]?) : m.term i = l.term i := by
  rw [LV.term_eq hf hi, LV.term_eq hm hi, hb, hbt]
  by_cases h : i = l.b
  · rw [if_pos h, if_pos h]
  · rw [if_neg h, if_neg h]
    by_cases h3 : l.b < i
    · rw [if_pos ⟨h3, by omega⟩, if_pos ⟨h3, h1⟩, he h3]
    · rw [if_neg (by omega), if_neg (by omega)]
theorem merged {l m : LV} {p : Int} {es : List Entry} (hf : l.fine) (hln : l.n = l.es.length) (hmn : m.n = m.es.length) (hm : m.fine) (hb : l.b ≤ p) (hp : p ≤ l.b + l.n) (hes : es.length ≤ 1048576) (hs : SameBut l m (mergeEs l p es)) : Merged l m p es := by
  obtain ⟨g1, g2, g3⟩ := id hf
  obtain ⟨s1, s2, s3, s4⟩ := hs
  rw [mergeEs_hi hb] at s4
  cases hq : mism l p 0 es with
  | none =>
    rw [hq] at s4
    simp only at s4
    have hall := (mism_none es 0).1 hq
    have hn : m.n = l.n := by rw [hmn, hln, s4]
    have ht : ∀ i, In64 i → m.term i = l.term i := fun i hi => by
      rw [LV.term_eq hf hi, LV.term_eq hm hi, s1, s2, s4, hn]
    refine ⟨fun i hi _ => ht i hi, fun j e he => ?_, ?_⟩
    · have hj : j < es.length := (List.getElem?_eq_some_iff.1 he).1
      have := hall j e he
      rw [Nat.zero_add] at this
      unfold agr at this ⊢
      rw [ht _ ⟨by omega, by omega⟩]; exact this
    · rw [hn]
      cases hl : es.length with
      | zero => simp; omega
      | succ x =>
        have hlt : x < es.length := by omega
        have := agr_le hf hb (by omega) (by omega) (hall x es[x] (List.getElem?_eq_getElem hlt))
        omega
  | some k =>
    rw [hq] at s4
    simp only at s4
    obtain ⟨j, h2, h3, h4, h5⟩ := mism_some es 0 k hq
    rw [Nat.zero_add] at h2
    subst h2
    have hkb : p + k ≤ l.b + l.n := by
      cases hk : k with
      | zero => simp; omega
      | succ x =>
        have := agr_le hf hb (by omega) (by omega) (h5 x es[x] (by omega) (List.getElem?_eq_getElem (by omega)))
        omega
    have htk : (l.es.take (p - l.b + k).toNat).length = (p - l.b + k).toNat := by rw [List.length_take]; omega
    have hmlen : m.n = (p - l.b).toNat + es.length := by rw [hmn, s4, List.length_append, htk, List.length_drop]; omega
    have lo : ∀ x, x < (p - l.b + k).toNat → m.es[x]? = l.es[x]? := fun x hx => by
      rw [s4, List.getElem?_append_left (by omega), List.getElem?_take, if_pos hx]
    refine ⟨fun i hi hip => ?_, fun j e he => ?_, by omega⟩
    · exact term_of_at hf hm s1 s2 hi (by omega) (by omega) fun h => lo _ (by omega)
    · have hj : j < es.length := (List.getElem?_eq_some_iff.1 he).1
      by_cases hjk : j < k
      · have := h5 j e hjk he
        rw [Nat.zero_add] at this
        unfold agr at this ⊢
        rw [term_of_at hf hm s1 s2 ⟨by omega, by omega⟩ (by omega) (by omega) fun h => lo _ (by omega)]
        exact this
      · unfold agr
        rw [LV.term_eq hm ⟨by omega, by omega⟩, if_neg (by omega), if_pos (by omega)]
        have hx : m.es[(p + 1 + (j : Int) - m.b - 1).toNat]? = some e := by
          rw [s4, List.getElem?_append_right (by omega), htk, List.getElem?_drop, ← he]
          congr 1
          omega
        rw [hx]; rfl
theorem merged_again {l m : LV} {p t : Int} {es : List Entry} (hm : m.fine) (hb : l.b ≤ p) (h0 : 0 ≤ p) (hp : p ≤ l.b + l.n) (hpb : In64 p) (hmb : m.b = l.b) (hM : Merged l m p es) (hbad : ¬ mergeBad l p t es) : ¬ mergeBad m p t es ∧ mergeEs m p es = m.es := by
  constructor
  · unfold mergeBad at hbad ⊢
    rw [hM.low p hpb (Int.le_refl _), hmb]
    have := hM.len
    intro h
    apply hbad
    rcases h with h | h | h | h
    · exact .inl (by omega)
    · exact .inr (.inl h)
    · exact .inr (.inr (.inl h))
    · exact .inr (.inr (.inr h))
  · rw [mergeEs_hi (by omega), (mism_none es 0).2 (fun j e he => by rw [Nat.zero_add]; exact hM.up j e he)]
end Go.Sx
