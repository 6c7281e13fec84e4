/- A symbolic executor over the model's wp: '==' of structs and arrays whose cells are numbers, bools and strings. -/
import Derived.Test.YtkmplcpibgnjcaaSx1
import Derived.ChangeKeysEq
namespace Go.Sx
open Go.RowKit

def leavesF (g : TypeId → Option (List (Nat × Nat))) : List Field → Option (List (Nat × Nat))
  | [] => some []
  | f :: fs => if f.name == "_" then none else match g f.type, leavesF g fs with
    | some l, some r => some (l.map (fun p => (f.offset + p.1, p.2)) ++ r)
    | _, _ => none
def leavesA (l : List (Nat × Nat)) (sz : Nat) : List Nat → List (Nat × Nat)
  | [] => []
  | i :: is => l.map (fun p => (i * sz + p.1, p.2)) ++ leavesA l sz is
def fitsIn (n : Nat) (l : List (Nat × Nat)) : Option (List (Nat × Nat)) := if l.all (fun p => decide (p.1 < n)) then some l else none
/-- the cells that '==' looks at: their places and kinds -/
def leaves (P : Program) : Nat → TypeId → Option (List (Nat × Nat))
  | 0, _ => none
  | d + 1, t => match P.info? t, P.underlying t with
    | some _, some .bool => some [(0, 0)]
    | some _, some (.int _) => some [(0, 1)]
    | some _, some .string => some [(0, 2)]
    | some _, some (.struct fs) => if P.stoodInHeld t then none else (leavesF (leaves P d) fs.toList).bind (fitsIn (P.cellsOf t))
    | some _, some (.array n e) => match P.info? e, leaves P d e with
      | some _, some l => fitsIn (P.cellsOf t) (leavesA l (P.cellsOf e) (List.range n))
      | _, _ => none
    | _, _ => none

def leafEq : Nat → Value → Value → Option Bool
  | 0, .bool a, .bool b => some (a == b)
  | 1, .int k a, .int k' b => if k = k' then some (a == b) else none
  | 2, .string a, .string b => some (a.toList == b.toList)
  | _, _, _ => none
def eqAll : List (Nat × Nat) → List Value → List Value → Option Bool
  | [], _, _ => some true
  | p :: L, xs, ys => match xs[p.1]?, ys[p.1]?, eqAll L xs ys with
    | some u, some v, some r => (leafEq p.2 u v).map (· && r)
    | _, _, _ => none

theorem eqAll_append : ∀ {L M : List (Nat × Nat)} {xs ys : List Value} {b : Bool}, eqAll (L ++ M) xs ys = some b → ∃ b1 b2, eqAll L xs ys = some b1 ∧ eqAll M xs ys = some b2 ∧ b = (b1 && b2)
  | [], M, xs, ys, b, h => ⟨true, b, rfl, h, by simp⟩
  | p :: L, M, xs, ys, b, h => by
    simp only [List.cons_append, eqAll] at h ⊢
    split at h
    case h_2 => cases h
    rename_i u v r hu hv hr
    simp only [Option.map_eq_some_iff] at h
    obtain ⟨x, hx, rfl⟩ := h
    obtain ⟨b1, b2, h1, h2, rfl⟩ := eqAll_append hr
    exact ⟨x && b1, b2, by rw [hu, hv, h1]; simp [hx], h2, by simp [Bool.and_assoc]⟩
theorem eqAll_shift {n off : Nat} : ∀ {L : List (Nat × Nat)} {xs ys : List Value}, (L.all fun p => decide (p.1 < n)) = true → eqAll (L.map fun p => (off + p.1, p.2)) xs ys = eqAll L ((xs.drop off).take n) ((ys.drop off).take n)
  | [], xs, ys, _ => rfl
  | p :: L, xs, ys, h => by
    simp only [List.all_cons, Bool.and_eq_true, decide_eq_true_eq] at h
    simp only [List.map_cons, eqAll, eqAll_shift (L := L) h.2, List.getElem?_take, if_pos h.1, List.getElem?_drop]

section
variable {P : Program} (m : Nat)
theorem part_leaf {t : TypeId} {d : TypeDesc} (h : P.underlying t = some d) (hd : ∀ fs, d ≠ .struct fs) (hd' : ∀ n e, d ≠ .array n e) {cs : Array Value} {off : Nat} {u : Value} (hc : cs.toList[off]? = some u) (w : World) : (part t cs off).run P w = .ok u w := by
  have ha : (isAgg t).run P w = .ok false w := by
    simp only [isAgg, Sem.run_bind, run_underlying h, Result.andThen_ok]
    cases d <;> first | rfl | exact absurd rfl (hd _) | exact absurd rfl (hd' _ _)
  have hc' : cs[off]? = some u := by simpa using hc
  simp only [part, Sem.run_bind, ha, Result.andThen_ok, Bool.false_eq_true, if_false, hc', Sem.run_pure]
theorem part_agg {t : TypeId} {i : TypeInfo} (hi : P.info? t = some i) (h : (∃ fs, P.underlying t = some (.struct fs)) ∨ ∃ n e, P.underlying t = some (.array n e)) (cs : Array Value) (off : Nat) (w : World) :
    (part t cs off).run P w = .ok (.agg (cs.extract off (off + P.cellsOf t))) w := by
  have ha : (isAgg t).run P w = .ok true w := by
    rcases h with ⟨fs, h⟩ | ⟨n, e, h⟩ <;> simp only [isAgg, Sem.run_bind, run_underlying h, Result.andThen_ok] <;> rfl
  have hs : (sizeOf t).run P w = .ok (P.cellsOf t) w := by simp [sizeOf, typeInfo, hi, Program.cellsOf]
  simp only [part, Sem.run_bind, ha, Result.andThen_ok, if_true, hs, Sem.run_pure]
theorem fitsIn_some {n : Nat} {l r : List (Nat × Nat)} (h : fitsIn n l = some r) : r = l ∧ (l.all fun p => decide (p.1 < n)) = true := by
  unfold fitsIn at h
  split at h
  · rename_i e; cases h; exact ⟨rfl, e⟩
  · cases h
theorem extract_list (cs : Array Value) (off n : Nat) : (cs.extract off (off + n)).toList = (cs.toList.drop off).take n := by
  rw [Array.toList_extract, List.extract_eq_take_drop, Nat.add_sub_cancel_left]

/-- what 'leaves' says of a type at a depth -/
def LvOk (P : Program) (D : Nat) (t : TypeId) (L : List (Nat × Nat)) : Prop :=
  ∀ (xs ys : Array Value) (off : Nat) (b : Bool) (w : World), eqAll (L.map fun p => (off + p.1, p.2)) xs.toList ys.toList = some b →
    ∃ a c, (part t xs off).run P w = .ok a w ∧ (part t ys off).run P w = .ok c w ∧ (Op.equalIn D t a c).run P w = .ok b w
theorem leaf_ok {D : Nat} {t : TypeId} {d : TypeDesc} (h : P.underlying t = some d) (hd : ∀ fs, d ≠ .struct fs) (hd' : ∀ n e, d ≠ .array n e) {k : Nat}
    (hk : ∀ u v b w, leafEq k u v = some b → (Op.equalIn D t u v).run P w = .ok b w) : LvOk P D t [(0, k)] := by
  intro xs ys off b w he
  simp only [List.map_cons, List.map_nil, eqAll, Nat.add_zero] at he
  split at he
  case h_2 => cases he
  rename_i u v r hu hv hr
  cases hr
  simp only [Bool.and_true, Option.map_id_fun', id_eq] at he
  exact ⟨u, v, part_leaf h hd hd' hu w, part_leaf h hd hd' hv w, hk u v b w he⟩
theorem fields_ok {D : Nat} {g : TypeId → Option (List (Nat × Nat))} (hg : ∀ t L, g t = some L → LvOk P D t L) : ∀ {fs : List Field} {L : List (Nat × Nat)}, leavesF g fs = some L → ∀ (xs ys : Array Value) (b : Bool) (w : World),
    eqAll L xs.toList ys.toList = some b → (Op.eqFields D xs ys fs).run P w = .ok b w
  | [], L, h, xs, ys, b, w, he => by cases h; cases he; simp [Op.eqFields]
  | f :: fs, L, h, xs, ys, b, w, he => by
    simp only [leavesF] at h
    split at h
    case isTrue => cases h
    rename_i hn
    split at h
    case h_2 => cases h
    rename_i l r hl hr
    cases h
    obtain ⟨b1, b2, h1, h2, rfl⟩ := eqAll_append he
    obtain ⟨a, c, e1, e2, e3⟩ := hg _ _ hl xs ys f.offset b1 w h1
    have hn' : f.name ≠ "_" := by simpa using hn
    have h3 := fields_ok hg hr xs ys b2 w h2
    simp only [Op.eqFields, if_pos hn', Sem.run_bind, e1, e2, e3, Result.andThen_ok]
    cases b1
    · simp
    · simpa using h3
theorem items_ok {D : Nat} {e : TypeId} {l : List (Nat × Nat)} (hg : LvOk P D e l) : ∀ {is : List Nat} (xs ys : Array Value) (b : Bool) (w : World),
    eqAll (leavesA l (P.cellsOf e) is) xs.toList ys.toList = some b → (Op.eqItems D e (P.cellsOf e) xs ys is).run P w = .ok b w
  | [], xs, ys, b, w, he => by cases he; simp [Op.eqItems]
  | i :: is, xs, ys, b, w, he => by
    obtain ⟨b1, b2, h1, h2, rfl⟩ := eqAll_append he
    obtain ⟨a, c, e1, e2, e3⟩ := hg xs ys (i * P.cellsOf e) b1 w h1
    have h3 := items_ok hg (is := is) xs ys b2 w h2
    simp only [Op.eqItems, Sem.run_bind, e1, e2, e3, Result.andThen_ok]
    cases b1
    · simp
    · simpa using h3

theorem leaves_agg {d D : Nat} (ih : ∀ t L, leaves P d t = some L → LvOk P D t L) {t : TypeId} {L : List (Nat × Nat)} (h : leaves P (d + 1) t = some L) (ht : (∃ fs, P.underlying t = some (.struct fs)) ∨ ∃ n e, P.underlying t = some (.array n e))
    (xs ys : Array Value) (b : Bool) (w : World) (he : eqAll L xs.toList ys.toList = some b) : (Op.equalIn (D + 1) t (.agg xs) (.agg ys)).run P w = .ok b w := by
  simp only [leaves] at h
  rcases ht with ⟨fs, hu⟩ | ⟨n, e, hu⟩
  · rw [hu] at h
    split at h <;> rename_i hi hd <;> try cases h
    all_goals first | cases hd | skip
    split at h
    case isTrue => cases h
    rename_i hs
    simp only [Option.bind_eq_some_iff] at h
    obtain ⟨l, hl, hf⟩ := h
    obtain ⟨rfl, _⟩ := fitsIn_some hf
    have hff : P.fieldsOf t = fs := by simp [Program.fieldsOf, hu]
    rw [run_equalIn_struct (P := P) w D t xs ys (by rw [hff]; exact hu) (by simpa using hs), hff]
    exact fields_ok ih hl xs ys b w he
  · rw [hu] at h
    split at h <;> rename_i hi hd <;> try cases h
    all_goals first | cases hd | skip
    split at h
    case h_2 => cases h
    rename_i j l hj hl
    obtain ⟨rfl, _⟩ := fitsIn_some h
    rw [run_equalIn_array w D xs ys hu hj]
    exact items_ok (ih _ _ hl) xs ys b w he

theorem leaves_ok : ∀ (d : Nat) (t : TypeId) (L : List (Nat × Nat)), leaves P d t = some L → LvOk P (d + m) t L
  | 0, t, L, h => by cases h
  | d + 1, t, L, h => by
    have ih := leaves_ok d
    have hh := h
    rw [show d + 1 + m = d + m + 1 by omega]
    simp only [leaves] at hh
    split at hh
    · rename_i hi hu
      cases hh
      refine leaf_ok hu (by simp) (by simp) fun u v b w he => ?_
      cases u <;> cases v <;> simp only [leafEq, Option.some.injEq] at he <;> first | cases he | skip
      all_goals exact run_equalIn_bool w _ t _ _ hu
    · rename_i k hi hu
      cases hh
      refine leaf_ok hu (by simp) (by simp) fun u v b w he => ?_
      cases u <;> cases v <;> simp only [leafEq] at he <;> first | cases he | skip
      split at he
      case isFalse => cases he
      rename_i e
      subst e
      cases he
      exact run_equalIn_int w _ t _ _ _ _ hu
    · rename_i hi hu
      cases hh
      refine leaf_ok hu (by simp) (by simp) fun u v b w he => ?_
      cases u <;> cases v <;> simp only [leafEq, Option.some.injEq] at he <;> first | cases he | skip
      all_goals exact run_equalIn_string w _ t _ _ hu
    · rename_i i fs hi hu
      have hl : (L.all fun p => decide (p.1 < P.cellsOf t)) = true := by
        split at hh
        · cases hh
        · simp only [Option.bind_eq_some_iff] at hh
          obtain ⟨l, _, hf⟩ := hh
          obtain ⟨rfl, hf⟩ := fitsIn_some hf
          exact hf
      intro xs ys off b w he
      rw [eqAll_shift hl, ← extract_list, ← extract_list] at he
      exact ⟨_, _, part_agg hi (.inl ⟨fs, hu⟩) xs off w, part_agg hi (.inl ⟨fs, hu⟩) ys off w, leaves_agg ih h (.inl ⟨fs, hu⟩) _ _ b w he⟩
    · rename_i i n e hi hu
      have hl : (L.all fun p => decide (p.1 < P.cellsOf t)) = true := by
        split at hh
        · obtain ⟨rfl, hf⟩ := fitsIn_some hh
          exact hf
        · cases hh
      intro xs ys off b w he
      rw [eqAll_shift hl, ← extract_list, ← extract_list] at he
      exact ⟨_, _, part_agg hi (.inr ⟨n, e, hu⟩) xs off w, part_agg hi (.inr ⟨n, e, hu⟩) ys off w, leaves_agg ih h (.inr ⟨n, e, hu⟩) _ _ b w he⟩
    · cases hh

/-- '==' of two structs or arrays -/
theorem eql_agg {d : Nat} (hd : d + m = 9999) {t : TypeId} {L : List (Nat × Nat)} (h : leaves P (d + 1) t = some L) (ht : (∃ fs, P.underlying t = some (.struct fs)) ∨ ∃ n e, P.underlying t = some (.array n e))
    (hg : P.eqGuardType P.depth t = false) (xs ys : Array Value) (b : Bool) (he : eqAll L xs.toList ys.toList = some b) (x y : Operand) (w : World) :
    ((do eqGuard .eql t x y (.agg xs) (.agg ys); binOp .eql t (.agg xs) (.agg ys) : Sem Value)).run P w = .ok (.bool b) w ∧
    ((do eqGuard .neq t x y (.agg xs) (.agg ys); binOp .neq t (.agg xs) (.agg ys) : Sem Value)).run P w = .ok (.bool (!b)) w := by
  have h1 := leaves_agg (D := 9999) (fun t L hl => by rw [← hd]; exact leaves_ok m d t L hl) h ht xs ys b w he
  constructor
  · simp only [Sem.run_bind, run_eqGuard_agg w .eql t x y xs ys hg, Result.andThen_ok, run_eql_struct, h1]
  · simp only [Sem.run_bind, run_eqGuard_agg w .neq t x y xs ys hg, Result.andThen_ok, run_neq_struct, h1]
end
end Go.Sx
