/- Plain laws of logs: compacted logs. -/
import Derived.Test.YtkmplcpibgnjcaaE12
import Derived.Test.YtkmplcpibgnjcaaE13
namespace Go.Sx

theorem confOf_append (a b : List Entry) (j : Joint) : confOf (a ++ b) j = confOf b (confOf a j) := by
  unfold confOf
  rw [List.reverse_append, List.find?_append]
  cases b.reverse.find? fun e => e.kind == 2 <;> simp
theorem confOf_cut (es : List Entry) (k : Nat) (j : Joint) : confOf (es.drop k) (confOf (es.take k) j) = confOf es j := by
  rw [← confOf_append, List.take_append_drop]
theorem madeE_bd : ∀ (bs : List UInt8) (t : Int) (e : Entry), e ∈ madeE t bs → t ≤ e.term ∧ e.term ≤ t + 2 * bs.length
  | [], t, e, h => by simp [madeE] at h
  | b :: r, t, e, h => by
    have hs : t ≤ stepT t b ∧ stepT t b ≤ t + 2 := by unfold stepT; omega
    simp only [madeE, List.mem_cons] at h
    rcases h with rfl | h
    · simp only [List.length_cons]; omega
    · have := madeE_bd r (stepT t b) e h
      simp only [List.length_cons]; omega
/-- what is compacted -/
structure Cut (l c : LV) (to : Int) : Prop where
  lo : l.b ≤ to
  hi : to ≤ l.b + l.n
  b : c.b = to
  bt : c.bt = (l.term to).1
  j : c.j = confOf (l.es.take (to - l.b).toNat) l.j
  es : c.es = l.es.drop (to - l.b).toNat
section
variable {l c : LV} {to : Int} (hf : l.fine) (hcf : c.fine) (hln : l.n = l.es.length) (hcn : c.n = c.es.length) (hc : Cut l c to)
include hf hcf hln hcn hc
omit hf hcf in
theorem Cut.end_ : c.b + c.n = l.b + l.n := by
  obtain ⟨h1, h2, h3, h4, h5, h6⟩ := hc
  rw [hcn, h6, List.length_drop, h3]
  omega
theorem Cut.term {i : Int} (hi : In64 i) (h : to ≤ i) : c.term i = l.term i := by
  have he := Cut.end_ hln hcn hc
  obtain ⟨h1, h2, h3, h4, h5, h6⟩ := hc
  obtain ⟨g1, g2, g3⟩ := id hf
  by_cases hit : i = to
  · subst hit
    have h2' := LV.term_is hf hi
    rw [LV.term_eq hcf hi, if_pos h3.symm, h4]
    refine Prod.ext rfl ?_
    rw [h2']
    simp [h1, h2]
  · rw [LV.term_eq hcf hi, LV.term_eq hf hi, if_neg (show ¬ i = c.b by omega), if_neg (show ¬ i = l.b by omega)]
    by_cases hin : i ≤ l.b + l.n
    · rw [if_pos (show c.b < i ∧ i ≤ c.b + c.n by omega), if_pos (show l.b < i ∧ i ≤ l.b + l.n by omega), h6, List.getElem?_drop]
      congr 5
      omega
    · rw [if_neg (show ¬ (c.b < i ∧ i ≤ c.b + c.n) by omega), if_neg (show ¬ (l.b < i ∧ i ≤ l.b + l.n) by omega)]
theorem Cut.mism {p : Int} (hp : to ≤ p) (hpb : p ≤ 1099512676352) : ∀ (es : List Entry) (k : Nat), es.length + k ≤ 1048576 → mism c p k es = mism l p k es
  | [], k, _ => rfl
  | e :: r, k, hk => by
    simp only [List.length_cons] at hk
    obtain ⟨g1, g2, g3⟩ := id hf
    have h1 := hc.lo
    have ht := Cut.term hf hcf hln hcn hc (i := p + 1 + (k : Int)) ⟨by omega, by omega⟩ (by omega)
    simp only [Sx.mism, ht, Cut.mism hp hpb r (k + 1) (by omega)]
/-- a merge, and compacted; compacted, and a merge -/
theorem Cut.merge {m x d : LV} {p : Int} {es : List Entry} (hmn : m.n = m.es.length) (hmf : m.fine) (hp : to ≤ p) (hp2 : p ≤ l.b + l.n) (hes : es.length ≤ 1048576) (hm : SameBut l m (mergeEs l p es)) (hx : SameBut c x (mergeEs c p es)) (hd : Cut m d to) : SameL d x := by
  obtain ⟨g1, g2, g3⟩ := id hf
  have h1 := hc.lo
  have h2 := hc.hi
  have hM := merged hf hln hmn hmf (by omega) hp2 hes hm
  have hmi := Cut.mism hf hcf hln hcn hc hp (by omega) es 0 (by omega)
  obtain ⟨m1, m2, m3, m4⟩ := hm
  obtain ⟨x1, x2, x3, x4⟩ := hx
  have hlow : (m.term to).1 = (l.term to).1 := by rw [hM.low to ⟨by omega, by omega⟩ hp]
  have key : m.es.take (to - l.b).toNat = l.es.take (to - l.b).toNat ∧ m.es.drop (to - l.b).toNat = x.es := by
    rw [x4, m4, mergeEs_hi (by omega), mergeEs_hi (by rw [hc.b]; omega), hmi]
    cases hq : Sx.mism l p 0 es with
    | none => exact ⟨rfl, hc.es.symm⟩
    | some k =>
      simp only
      obtain ⟨j, e1, e2, e3, e4⟩ := mism_some es 0 k hq
      rw [Nat.zero_add] at e1
      subst e1
      have hkb : p + k ≤ l.b + l.n := by
        cases hk : k with
        | zero => simp; omega
        | succ y =>
          have := agr_le hf (by omega) (by omega) (by omega) (e4 y es[y] (by omega) (List.getElem?_eq_getElem (by omega)))
          omega
      have htk : (l.es.take (p - l.b + k).toNat).length = (p - l.b + k).toNat := by rw [List.length_take]; omega
      constructor
      · rw [List.take_append_of_le_length (by omega), List.take_take]
        congr 1
        omega
      · rw [List.drop_append_of_le_length (by omega), List.drop_take, hc.es, hc.b]
        congr 2
        omega
  refine ⟨by rw [hd.b, x1, hc.b], by rw [hd.bt, x2, hc.bt, hlow], ?_, ?_⟩
  · rw [hd.j, m1, key.1, m3, x3, hc.j]
  · rw [hd.es, m1, key.2]
end
end Go.Sx
