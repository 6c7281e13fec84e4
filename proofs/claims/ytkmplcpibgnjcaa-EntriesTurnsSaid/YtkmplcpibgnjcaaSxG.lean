/- A symbolic executor over the model's wp: what becomes of a good world: calls, new rows, rows that grow. -/
import Derived.Test.YtkmplcpibgnjcaaSx7
import Derived.Laws.AppendOwn
namespace Go.Sx
open Go.RowKit

theorem Hp.le_refl (H : Hp) : Hp.le H H := fun _ _ _ h => h
theorem Hp.le_trans {A B C : Hp} (h : Hp.le A B) (h' : Hp.le B C) : Hp.le A C := fun b o v e => h' b o v (h b o v e)

theorem good_call {G : Gh} {β : Bl} {bx : List (List CV)} {w w' : World} {H' : Hp} (g : Good G β bx w) (hb : Below w.heap.size w w') (hle : Hp.le G.H H') (hag : Agree H' w')
    (hf : ∀ b o, G.H b o = none → H' b o ≠ none → w.heap.size ≤ b) : Good { G with H := H' } β bx w' := by
  have fr : ∀ b o, b < w.heap.size → G.H b o = none → H' b o = none := fun b o h1 h2 => by
    cases h : H' b o with
    | none => rfl
    | some v => have := hf b o h2 (by rw [h]; simp); omega
  refine ⟨hb.os.trans g.os, hb.tape.trans g.tape, hb.output.trans g.output, Nat.le_trans g.size hb.size, fun b h1 h2 => ?_, hag, Hp.le_trans g.le0 hle, fun b o h1 h2 => ?_, g.bl, ?_, fun q hq o => ?_, fun q hq => ?_, g.inj, fun r hr => ?_, g.rinj, fun q hq => ?_⟩
  · rw [hb.block b (Nat.lt_of_lt_of_le h1 g.size)]; exact g.old b h1 h2
  · cases h : G.H b o with
    | none => exact .inl (Nat.le_trans g.size (hf b o h h2))
    | some v => exact g.fresh b o h1 (by rw [h]; simp)
  · intro k cs q hk hq i c hc
    obtain ⟨x, e1, e2, e3⟩ := g.bh k cs q hk hq i c hc
    have hlt := (g.bxlt q (List.mem_of_getElem? hq)).1
    exact ⟨x, e1, by rw [hb.cell (p := ⟨q.1, q.2 + i, none⟩) hlt]; exact e2, by rw [hb.frozen (p := ⟨q.1, q.2 + i, none⟩) hlt]; exact e3⟩
  · exact fr _ _ (g.bxlt q hq).1 (g.bxH q hq o)
  · have := g.bxlt q hq
    have := hb.size
    exact ⟨by omega, (g.bxlt q hq).2⟩
  · obtain ⟨r1, r2, r3, r4, r6, r7, cs, r5, r8⟩ := g.rows r hr
    have := hb.size
    exact ⟨r1, by omega, fun o ho => fr _ _ r2 (r3 o ho), r4, r6, r7, cs, by rw [hb.block _ r2]; exact r5, r8⟩
  · obtain ⟨r, hr, e1, e2⟩ := g.zs q hq
    exact ⟨r, hr, e1, fun cs hcs => e2 cs (by rw [hb.block _ (g.rows r hr).2.1] at hcs; exact hcs)⟩

/-- cells laid over what is known -/
def Hp.add (H : Hp) (b o : Nat) (vs : List Value) : Hp := fun b' o' => if b' = b ∧ o ≤ o' ∧ o' - o < vs.length then vs[o' - o]? else H b' o'
theorem Hp.le_add {H : Hp} {b o : Nat} {vs : List Value} (h : ∀ o', o ≤ o' → H b o' = none) : Hp.le H (H.add b o vs) := fun b' o' v hv => by
  unfold Hp.add
  rw [if_neg]
  · exact hv
  · rintro ⟨rfl, h1, _⟩
    rw [h o' h1] at hv
    cases hv
theorem Hp.add_at {H : Hp} {b o : Nat} {vs : List Value} {j : Nat} {v : Value} (h : vs[j]? = some v) : H.add b o vs b (o + j) = some v := by
  have hj := (List.getElem?_eq_some_iff.1 h).1
  unfold Hp.add
  rw [if_pos ⟨rfl, by omega, by omega⟩, Nat.add_sub_cancel_left]
  exact h
theorem Hp.add_out {H : Hp} {b o : Nat} {vs : List Value} {b' o' : Nat} (h : b' ≠ b ∨ o + vs.length ≤ o') : H.add b o vs b' o' = H b' o' := by
  unfold Hp.add
  rw [if_neg]
  rintro ⟨h1, h2, h3⟩
  rcases h with h | h
  · exact h h1
  · omega
theorem Hp.add_ne {H : Hp} {b o : Nat} {vs : List Value} {b' o' : Nat} (h0 : H b' o' = none) (h : H.add b o vs b' o' ≠ none) : b' = b := by
  apply Classical.byContradiction
  intro hne
  rw [Hp.add_out (.inl hne)] at h
  exact h h0

section
variable {G : Gh} {β : Bl} {bx : List (List CV)} {w : World} (g : Good G β bx w)
include g

theorem Good.free {o : Nat} : G.H w.heap.size o = none := by
  cases hh : G.H w.heap.size o with
  | none => rfl
  | some v => exact absurd (World.block_lt_of_cell? (a := ⟨w.heap.size, o, none⟩) w (g.imm _ _ _ hh)) (by simp)

theorem Good.same {r r' : ORow} (hr : r ∈ G.R) (hr' : r' ∈ G.R) (h : r.b = r'.b) : r = r' := by
  have := g.rinj
  obtain ⟨i, hi, rfl⟩ := List.mem_iff_getElem.1 hr
  obtain ⟨j, hj, rfl⟩ := List.mem_iff_getElem.1 hr'
  have hij : i = j := by
    apply Classical.byContradiction
    intro hne
    exact nodup_ne this (i := i) (j := j) (by simp [hi]) (by simp [hj]) hne h
  subst hij
  rfl
theorem Good.dropR {R' : List ORow} (h : R'.Sublist G.R) (hz : ∀ q ∈ G.Z, ∃ r ∈ R', r.b = q.1) : Good { G with R := R' } β bx w :=
  ⟨g.os, g.tape, g.output, g.size, g.old, g.imm, g.le0, g.fresh, g.bl, g.bh, g.bxH, g.bxlt, g.inj, fun r hr => g.rows r (h.subset hr), g.rinj.sublist (h.map _), fun q hq => by
    obtain ⟨r, hr, e1⟩ := hz q hq
    obtain ⟨r', hr', e2, e3⟩ := g.zs q hq
    have := g.same (h.subset hr) hr' (e1.trans e2.symm)
    subst this
    exact ⟨r, hr, e1, e3⟩⟩

/-- a new row, of which the first elements are known -/
theorem good_row {w1 : World} {vs : List Value} {cs : Array Value} {n c k : Nat} {e : TypeId} (hw : w1.heap = w.heap) (ho : w1.os = w.os) (ht : w1.tape = w.tape) (hu : w1.output = w.output)
    (hv : vs.length = n * k) (hc : cs.size = c * k) (hk : cs.toList.take (n * k) = vs) (hn : n ≤ c) (hm : c ≤ maxLen) :
    Good { G with H := G.H.add w.heap.size 0 vs, R := ⟨w.heap.size, n, c, k, e⟩ :: G.R } β bx (w1.alloc (.cells cs e)) := by
  have hold : ∀ b, b < w.heap.size → (w1.alloc (.cells cs e)).heap[b]? = w.heap[b]? := fun b hb => by rw [Below.heap_alloc _ _ _ (by rw [hw]; exact hb), hw]
  have hnew : (w1.alloc (.cells cs e)).heap[w.heap.size]? = some (.cells cs e (0, 0)) := by
    have := heap_alloc_new w1 (.cells cs e)
    rw [hw] at this
    exact this
  have hsz : (w1.alloc (.cells cs e)).heap.size = w.heap.size + 1 := by simp [hw]
  have hb : Below w.heap.size w (w1.alloc (.cells cs e)) := ⟨ho, ht, hu, by omega, hold⟩
  have hle : Hp.le G.H (G.H.add w.heap.size 0 vs) := Hp.le_add fun o _ => g.free
  have g1 := good_call g hb hle (fun b o v h => by
    by_cases hbb : b = w.heap.size
    · subst hbb
      by_cases hj : o < vs.length
      · have h1 := Hp.add_at (H := G.H) (b := w.heap.size) (o := 0) (vs := vs) (j := o) (List.getElem?_eq_getElem hj)
        rw [Nat.zero_add] at h1
        rw [h1] at h
        rw [cell_of_row _ _ _ _ _ _ hnew, ← h]
        have : cs.toList[o]? = vs[o]? := by rw [← hk, List.getElem?_take, if_pos (by omega)]
        rw [← Array.getElem?_toList, this]
        exact List.getElem?_eq_getElem hj
      · rw [Hp.add_out (.inr (by omega)), g.free] at h; cases h
    · rw [Hp.add_out (.inl hbb)] at h
      rw [World.cell?_of_block (w := w) (a := ⟨b, o, none⟩) (hold b (World.block_lt_of_cell? (a := ⟨b, o, none⟩) w (g.imm _ _ _ h)))]
      exact g.imm _ _ _ h) (fun b o h1 h2 => by rw [Hp.add_ne h1 h2]; exact Nat.le_refl _)
  refine ⟨g1.os, g1.tape, g1.output, g1.size, g1.old, g1.imm, g1.le0, g1.fresh, g1.bl, g1.bh, g1.bxH, g1.bxlt, g1.inj, fun r hr => ?_, ?_, fun q hq => ?_⟩
  · rcases List.mem_cons.1 hr with rfl | hr
    · exact ⟨.inl g.size, by simp only [hsz]; omega, fun o ho => by (show G.H.add w.heap.size 0 vs w.heap.size o = none); simp only at ho; rw [Hp.add_out (.inr (by omega))]; exact g.free, fun q hq => Nat.ne_of_lt (g.bxlt q hq).1, hn, hm, cs, hnew, hc⟩
    · exact g1.rows r hr
  · rw [List.map_cons, List.nodup_cons]
    refine ⟨fun hx => ?_, g.rinj⟩
    obtain ⟨r, hr, he⟩ := List.mem_map.1 hx
    have := (g.rows r hr).2.1
    simp only at he
    omega
  · obtain ⟨r, hr, e1, e2⟩ := g.zs q hq
    exact ⟨r, List.mem_cons_of_mem _ hr, e1, fun cs hcs => e2 cs (by rw [hold _ (g.rows r hr).2.1] at hcs; exact hcs)⟩

def Gh.zpush (G : Gh) (b d : Nat) : List (Nat × List Value) := G.Z.map fun q => if q.1 = b then (q.1, q.2.drop d) else q
/-- elements laid behind those of a row -/
theorem good_push {r : ORow} (hr : r ∈ G.R) {m : Nat} {ys : List Value} {cs : Array Value} (hcs : w.heap[r.b]? = some (.cells cs r.e (0, 0))) (hy : ys.length = m * r.k) (hroom : r.n + m ≤ r.c) :
    Good { G with H := G.H.add r.b (r.n * r.k) ys, R := { r with n := r.n + m } :: G.R.filter (fun x => x.b != r.b), Z := G.zpush r.b ys.length } β bx
      (w.setRow r.b (cs.toList.take (r.n * r.k) ++ ys ++ cs.toList.drop (r.n * r.k + ys.length)).toArray) := by
  obtain ⟨r1, r2, r3, r4, r6, r7, cs', r5, r8⟩ := g.rows r hr
  rw [hcs] at r5; cases r5
  have hfit : r.n * r.k + ys.length ≤ cs.size := by rw [hy, r8, ← Nat.add_mul]; exact Nat.mul_le_mul_right _ hroom
  have hnew := setRow_heap w r.b cs (cs.toList.take (r.n * r.k) ++ ys ++ cs.toList.drop (r.n * r.k + ys.length)).toArray r.e _ hcs
  have hold : ∀ b, b ≠ r.b → (w.setRow r.b (cs.toList.take (r.n * r.k) ++ ys ++ cs.toList.drop (r.n * r.k + ys.length)).toArray).heap[b]? = w.heap[b]? := fun b hb => setRow_other w r.b b _ hb
  have hle : Hp.le G.H (G.H.add r.b (r.n * r.k) ys) := Hp.le_add fun o ho => r3 o ho
  generalize hnc : (cs.toList.take (r.n * r.k) ++ ys ++ cs.toList.drop (r.n * r.k + ys.length)).toArray = nc at hnew hold
  have hget : ∀ o, nc[o]? = if r.n * r.k ≤ o ∧ o - r.n * r.k < ys.length then ys[o - r.n * r.k]? else cs[o]? := by
    intro o
    rw [← hnc]
    simp only [List.getElem?_toArray]
    split
    · rw [List.getElem?_append_left (by simp; omega), List.getElem?_append_right (by simp; omega)]
      simp only [List.length_take, Array.length_toList]
      rw [show min (r.n * r.k) cs.size = r.n * r.k by omega]
    · rename_i hno
      by_cases h1 : o < r.n * r.k
      · rw [List.append_assoc, List.getElem?_append_left (by simp; omega), List.getElem?_take, if_pos h1]
        simp
      · rw [List.getElem?_append_right (by simp; omega)]
        simp only [List.length_append, List.length_take, Array.length_toList, List.getElem?_drop]
        rw [show r.n * r.k + ys.length + (o - (min (r.n * r.k) cs.size + ys.length)) = o by omega]
        simp
  have himm : Agree (G.H.add r.b (r.n * r.k) ys) (w.setRow r.b nc) := fun b o v h => by
    by_cases hbb : b = r.b
    · subst hbb
      rw [cell_of_row _ _ _ _ _ _ hnew, hget]
      unfold Hp.add at h
      simp only [true_and] at h
      split
      · rename_i hh; rw [if_pos hh] at h; exact h
      · rename_i hh
        rw [if_neg hh] at h
        have := g.imm _ _ _ h
        rwa [cell_of_row _ _ _ _ _ _ hcs] at this
    · rw [Hp.add_out (.inl hbb)] at h
      rw [World.cell?_of_block (w := w) (a := ⟨b, o, none⟩) (hold b hbb)]
      exact g.imm _ _ _ h
  have hsize : (w.setRow r.b nc).heap.size = w.heap.size := by simp [World.setRow]
  refine ⟨g.os, g.tape, g.output, by rw [hsize]; exact g.size, fun b h1 h2 => ?_, himm, Hp.le_trans g.le0 hle, fun b o h1 h2 => ?_, g.bl, ?_, fun q hq o => ?_, fun q hq => by rw [hsize]; exact g.bxlt q hq, g.inj, fun x hx => ?_, ?_, fun z hz => ?_⟩
  · rw [hold b (fun e => by subst e; rcases r1 with h | h; exact absurd (show r.b < G.w0.heap.size from h1) (by omega); exact h2 h)]; exact g.old b h1 h2
  · cases h : G.H b o with
    | none => have := Hp.add_ne h h2; subst this; exact r1
    | some v => exact g.fresh b o h1 (by rw [h]; simp)
  · intro k cs' q hk hq i c hc
    obtain ⟨x, e1, e2, e3⟩ := g.bh k cs' q hk hq i c hc
    have hne := r4 q (List.mem_of_getElem? hq)
    exact ⟨x, e1, by rw [World.cell?_of_block (w := w) (hold _ hne)]; exact e2, by rw [World.frozen?_of_block (w := w) (hold _ hne)]; exact e3⟩
  · show G.H.add r.b (r.n * r.k) ys q.1 o = none
    rw [Hp.add_out (.inl (r4 q hq))]; exact g.bxH q hq o
  · rcases List.mem_cons.1 hx with rfl | hx
    · refine ⟨r1, by rw [hsize]; exact r2, fun o ho => ?_, r4, hroom, r7, nc, hnew, ?_⟩
      · simp only [Nat.add_mul] at ho
        show G.H.add r.b (r.n * r.k) ys r.b o = none
        rw [Hp.add_out (.inr (by omega))]
        exact r3 o (by omega)
      · rw [← hnc]; simp; omega
    · rw [List.mem_filter] at hx
      obtain ⟨hx, hne⟩ := hx
      have hne : x.b ≠ r.b := by simpa using hne
      obtain ⟨q1, q2, q3, q4, q6, q7, cs', q5, q8⟩ := g.rows x hx
      exact ⟨q1, by rw [hsize]; exact q2, fun o ho => by (show G.H.add r.b (r.n * r.k) ys x.b o = none); rw [Hp.add_out (.inl hne)]; exact q3 o ho, q4, q6, q7, cs', by rw [hold _ hne]; exact q5, q8⟩
  · rw [List.map_cons, List.nodup_cons]
    refine ⟨fun hx => ?_, g.rinj.sublist (List.filter_sublist.map _)⟩
    obtain ⟨x, hx, he⟩ := List.mem_map.1 hx
    rw [List.mem_filter] at hx
    simp at hx
    exact hx.2 he
  · simp only [Gh.zpush, List.mem_map] at hz
    obtain ⟨q, hq, rfl⟩ := hz
    obtain ⟨x, hx, e1, e2⟩ := g.zs q hq
    by_cases hxr : q.1 = r.b
    · have hxx := g.same hx hr (e1.trans hxr)
      subst hxx
      rw [if_pos hxr]
      refine ⟨{ x with n := x.n + m }, List.mem_cons_self, e1, fun cs' hcs' => ?_⟩
      simp only at hcs'
      rw [hnew] at hcs'
      cases hcs'
      rw [← e2 cs hcs, ← hnc]
      simp only [Nat.add_mul, ← hy]
      rw [List.drop_append, List.drop_eq_nil_of_le (by simp; omega), List.nil_append, List.drop_drop]
      simp only [List.length_append, List.length_take, Array.length_toList]
      rw [show min (x.n * x.k) cs.size = x.n * x.k by omega, Nat.sub_self, Nat.add_zero, List.drop_drop]
    · rw [if_neg hxr]
      have hne : x.b ≠ r.b := fun e => hxr (e1 ▸ e)
      exact ⟨x, List.mem_cons_of_mem _ (List.mem_filter.2 ⟨hx, by simpa using hne⟩), e1, fun cs' hcs' => e2 cs' (by rw [hold _ hne] at hcs'; exact hcs')⟩
end
end Go.Sx
