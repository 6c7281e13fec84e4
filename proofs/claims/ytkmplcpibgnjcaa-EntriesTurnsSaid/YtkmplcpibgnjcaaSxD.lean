/- Regions that draw their order: what is kept of the boxes, which operation may be taken first, and why. -/
import Derived.Test.YtkmplcpibgnjcaaSx8
namespace Go.Sx
open Go.RowKit

/-- boxes as they were where the region began, as long as nobody who writes them has come up -/
def Jd (β0 : Bl) (sn : List (List CV)) (sk : List (Nat × Nat)) (H : Hp) (L : Array Bool) (w : World) : Prop :=
  Agree H w ∧ ∀ (k : Nat) (cs : List CV) (q : Nat × Nat), sn[k]? = some cs → β0[k]? = some q → (∀ s, (k, s) ∈ sk → L.getD s true = false) → ∀ (i : Nat) (c : CV), cs[i]? = some c →
    ∃ x, c.den β0 = some x ∧ w.cell? ⟨q.1, q.2 + i, none⟩ = some x ∧ w.frozen? ⟨q.1, q.2 + i, none⟩ = false

def SnOk (sn : List (List CV)) (sk : List (Nat × Nat)) (L : List Bool) (bx : List (List CV)) : Prop :=
  ∀ (k : Nat) (cs : List CV), sn[k]? = some cs → (∀ s, (k, s) ∈ sk → L.getD s true = false) → bx[k]? = some cs
def Closed (ops : Array Oper) (L : List Bool) : Prop := ∀ j oj, ops[j]? = some oj → L.getD j true = true → ∀ e ∈ oj.after, Region.binds .any e = true → L.getD e.on false = true

/-- may these two not be told apart by their order, unless one waits for the other? -/
def waitsB (o : Oper) (i : Nat) : Bool := o.after.any fun e => Region.binds .any e && e.on == i
def pairB (ops : Array Oper) (i j : Nat) (oi oj : Oper) : Bool := i == j || waitsB oj i || waitsB oi j || oi.apart ops oj
def staticB (ops : Array Oper) : Bool :=
  Region.noSelect ops && ops.toList.zipIdx.all fun p => ops.toList.zipIdx.all fun q => pairB ops p.2 q.2 p.1 q.1
def readyB (o : Oper) (L : List Bool) : Bool := o.after.all fun e => !Region.binds .any e || L.getD e.on false

theorem toArray_getD {L : List Bool} {i : Nat} {d : Bool} : L.toArray.getD i d = L.getD i d := by
  rw [Array.getD_eq_getD_getElem?, List.getD_eq_getElem?_getD]; simp

theorem staticB_pair {ops : Array Oper} (h : staticB ops = true) {i j : Nat} {oi oj : Oper} (hi : ops[i]? = some oi) (hj : ops[j]? = some oj) : pairB ops i j oi oj = true := by
  unfold staticB at h
  simp only [Bool.and_eq_true, List.all_eq_true] at h
  have m : ∀ {k : Nat} {o : Oper}, ops[k]? = some o → (o, k) ∈ ops.toList.zipIdx := fun {k o} hk => by
    rw [List.mem_iff_getElem?]
    exact ⟨k, by simp [hk]⟩
  exact h.2 _ (m hi) _ (m hj)

theorem waitsB_iff {o : Oper} {i : Nat} : waitsB o i = true ↔ ∃ e ∈ o.after, Region.binds .any e = true ∧ e.on = i := by
  unfold waitsB
  rw [Array.any_eq_true']
  simp

section
variable {ops : Array Oper} {L : List Bool} {i : Nat} {oi : Oper} (hi : ops[i]? = some oi) (hL : L.getD i true = false) (hr : readyB oi L = true)
include hi hL hr

theorem ready_mem : i ∈ Region.ready .any ops L.toArray := by
  rw [mem_ready]
  refine ⟨by rw [toArray_getD]; exact hL, oi, hi, fun e he hb => ?_⟩
  unfold readyB at hr
  have := Array.all_eq_true_iff_forall_mem.1 hr e he
  rw [toArray_getD]
  simpa [hb] using this

omit hL in
theorem free_of (hs : staticB ops = true) : ∀ j oj, ops[j]? = some oj → j ≠ i → L.toArray.getD j true = false → (∀ e ∈ oj.after, Region.binds .any e = true → e.on ≠ i) → oi.apart ops oj = true := by
  intro j oj hj hne hun hno
  have h := staticB_pair hs hi hj
  unfold pairB at h
  simp only [Bool.or_eq_true, beq_iff_eq] at h
  rcases h with ((h | h) | h) | h
  · exact absurd h.symm hne
  · obtain ⟨e, he, hb, ho⟩ := waitsB_iff.1 h
    exact absurd ho (hno e he hb)
  · obtain ⟨e, he, hb, ho⟩ := waitsB_iff.1 h
    unfold readyB at hr
    have h1 := Array.all_eq_true_iff_forall_mem.1 hr e he
    simp only [hb, Bool.not_true, Bool.false_or, ho] at h1
    rw [toArray_getD] at hun
    rw [List.getD_eq_getElem?_getD] at h1 hun
    cases hh : L[j]? <;> simp [hh] at h1 hun
    rw [h1] at hun; cases hun
  · exact h

omit hr hi in
theorem waits_of (hc : Closed ops L) : Waits ops i L.toArray := by
  refine ⟨by rw [toArray_getD]; exact hL, fun j oj hj ⟨e, he, hb, ho⟩ => ?_⟩
  rw [toArray_getD]
  cases hh : L.getD j true with
  | false => rfl
  | true =>
    have := hc j oj hj hh e he hb
    rw [ho] at this
    rw [List.getD_eq_getElem?_getD] at this hL
    cases h3 : L[i]? <;> simp [h3] at this hL
    rw [this] at hL; cases hL

omit hL in
theorem closed_set (hc : Closed ops L) : Closed ops (L.set i true) := by
  have up : ∀ {j}, L.getD j false = true → (L.set i true).getD j false = true := fun {j} h => by
    rw [List.getD_eq_getElem?_getD] at h ⊢
    by_cases hij : i = j
    · subst hij
      cases hh : L[i]? <;> simp [hh] at h
      have : i < L.length := (List.getElem?_eq_some_iff.1 hh).1
      simp [this]
    · rw [List.getElem?_set_ne hij]; exact h
  intro j oj hj hl e he hb
  by_cases hij : i = j
  · subst hij
    rw [hi] at hj; cases hj
    unfold readyB at hr
    have h1 := Array.all_eq_true_iff_forall_mem.1 hr e he
    simp only [hb, Bool.not_true, Bool.false_or] at h1
    exact up h1
  · refine up (hc j oj hj ?_ e he hb)
    rw [List.getD_eq_getElem?_getD] at hl ⊢
    rwa [List.getElem?_set_ne hij] at hl
end

theorem snOk_set {sn : List (List CV)} {sk : List (Nat × Nat)} {L : List Bool} {bx : List (List CV)} {i : Nat} (h : SnOk sn sk L bx) (hi : L.getD i true = false) : SnOk sn sk (L.set i true) bx := by
  intro k cs hk hs
  refine h k cs hk fun s hsk => ?_
  have := hs s hsk
  rw [List.getD_eq_getElem?_getD] at this ⊢
  by_cases hij : i = s
  · subst hij; rw [List.getD_eq_getElem?_getD] at hi; exact hi
  · rwa [List.getElem?_set_ne hij] at this

theorem count_set {L : List Bool} {i : Nat} (h : L.getD i true = false) : L.count false = (L.set i true).count false + 1 := by
  induction L generalizing i with
  | nil => simp at h
  | cons b L ih =>
    cases i with
    | zero => simp at h; subst h; simp
    | succ i =>
      have := ih (i := i) (by simpa using h)
      simp only [List.set_cons_succ, List.count_cons]
      omega

/-- the boxes that an operation may read before its turn -/
def maskOk (sk : List (Nat × Nat)) (ops : Array Oper) (i k : Nat) : Bool := sk.all fun q => q.1 != k || (match ops[q.2]? with | some o => waitsB o i | none => false)
def maskB (sn : List (List CV)) (sk : List (Nat × Nat)) (ops : Array Oper) (i n : Nat) : List (List CV) :=
  (sn.zipIdx.map fun p => if maskOk sk ops i p.2 then p.1 else []) ++ List.replicate (n - sn.length) []

theorem maskB_get {sn : List (List CV)} {sk : List (Nat × Nat)} {ops : Array Oper} {i n k : Nat} {cs : List CV} {c : CV} {m : Nat} (h : (maskB sn sk ops i n)[k]? = some cs) (hc : cs[m]? = some c) :
    sn[k]? = some cs ∧ maskOk sk ops i k = true := by
  unfold maskB at h
  by_cases hk : k < sn.length
  · rw [List.getElem?_append_left (by simpa using hk)] at h
    simp only [List.getElem?_map, List.getElem?_zipIdx, Option.map_map, Option.map_eq_some_iff] at h
    obtain ⟨x, hx, rfl⟩ := h
    simp only [Function.comp, Nat.zero_add] at hc ⊢
    split at hc
    · rename_i hm; exact ⟨by rw [if_pos hm]; exact hx, hm⟩
    · simp at hc
  · rw [List.getElem?_append_right (by simp; omega), List.getElem?_replicate] at h
    split at h
    · cases h; simp at hc
    · cases h

theorem jd_mask {β : Bl} {sn : List (List CV)} {sk : List (Nat × Nat)} {H : Hp} {ops : Array Oper} {i n : Nat} {L : Array Bool} {w : World} (hw : Waits ops i L) (hJ : Jd (β.take sn.length) sn sk H L w) :
    BxHold β (maskB sn sk ops i n) w := by
  intro k cs q hk hq m c hc
  obtain ⟨h1, h2⟩ := maskB_get hk hc
  have hlt : k < sn.length := (List.getElem?_eq_some_iff.1 h1).1
  obtain ⟨x, e1, e2, e3⟩ := hJ.2 k cs q h1 (by rw [List.getElem?_take]; simp [hlt, hq]) (fun s hs => by
    unfold maskOk at h2
    have h3 := List.all_eq_true.1 h2 (k, s) hs
    simp only [bne_self_eq_false, Bool.false_or] at h3
    split at h3
    · rename_i o ho; exact hw.2 s o ho (waitsB_iff.1 h3)
    · cases h3) m c hc
  refine ⟨x, ?_, e2, e3⟩
  have := CV.den_mono (l := β.drop sn.length) e1
  rwa [List.take_append_drop] at this

/-- the condition on the world, out of what is known of the boxes -/
theorem jd_of {β : Bl} {sn : List (List CV)} {sk : List (Nat × Nat)} {H : Hp} {L : List Bool} {bx : List (List CV)} {w : World} (hs : SnOk sn sk L bx) (hb : BxHold β bx w) (hH : Agree H w)
    (hd : ∀ (k i : Nat) (cs : List CV) (c : CV), sn[k]? = some cs → cs[i]? = some c → ∃ x, c.den (β.take sn.length) = some x) : Jd (β.take sn.length) sn sk H L.toArray w := by
  refine ⟨hH, fun k cs q hk hq hun i c hc => ?_⟩
  have hq' : β[k]? = some q := by
    rw [List.getElem?_take] at hq
    split at hq
    · exact hq
    · cases hq
  have h1 := hs k cs hk (fun s hsk => by have := hun s hsk; rwa [toArray_getD] at this)
  obtain ⟨x, e1, e2, e3⟩ := hb k cs q h1 hq' i c hc
  obtain ⟨y, hy⟩ := hd k i cs c hk hc
  have := CV.den_mono (l := β.drop sn.length) hy
  rw [List.take_append_drop, e1] at this
  cases this
  exact ⟨x, hy, e2, e3⟩

theorem jd_indep {β0 : Bl} {sn : List (List CV)} {sk : List (Nat × Nat)} {H : Hp} {i : Nat} (hsk : sk.all (fun q => q.2 != i) = true) {L : Array Bool} {w : World} :
    Jd β0 sn sk H (L.setIfInBounds i true) w ↔ Jd β0 sn sk H L w := by
  have key : ∀ k s, (k, s) ∈ sk → (L.setIfInBounds i true).getD s true = L.getD s true := fun k s hs => by
    have := List.all_eq_true.1 hsk _ hs
    simp at this
    exact getD_set_ne true (Ne.symm this)
  unfold Jd
  refine and_congr Iff.rfl ⟨fun h k cs q hk hq hun => h k cs q hk hq fun s hs => (key k s hs).trans (hun s hs), fun h k cs q hk hq hun => h k cs q hk hq fun s hs => (key k s hs).symm.trans (hun s hs)⟩
end Go.Sx
