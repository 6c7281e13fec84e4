/- A symbolic executor over the model's wp, part 4: that one operation does so. -/
import Derived.Test.YtkmplcpibgnjcaaSx3
namespace Go.Sx
open Go.RowKit

theorem TV.cells_den {β : Bl} {y : TV} {v : Value} (h : y.den β = some v) (hp : y.cells.all CV.plain = true) : denL β y.cells = some v.cells.toList := by
  cases y with
  | agg xs =>
    simp only [TV.den, Option.map_eq_some_iff] at h
    obtain ⟨l, hl, rfl⟩ := h
    simpa [TV.cells, Value.cells] using hl
  | c x =>
    have hx : x.den β = some v := h
    have hv : v.cells = #[v] := by
      have : x.plain = true := by simpa [TV.cells] using hp
      cases v <;> first | rfl | skip
      exfalso
      cases x <;> simp only [CV.den, Option.some.injEq, Option.map_eq_some_iff] at hx
      · subst hx; simp [CV.plain] at this
      all_goals (obtain ⟨_, _, e⟩ := hx; cases e)
    simp [TV.cells, denL, hx, hv]

/-- what 'xload' reads, out of cells that hold so -/
theorem xload_ok {β : Bl} {ti : TI} {cs : List CV} {off : Nat} {y : TV} {P : Program} {t : TypeId} (ok : TIok P t ti) (h : xload ti cs off = some y) {b o : Nat}
    {vs : List Value} (hd : denL β cs = some vs) :
    ∃ v, y.den β = some v ∧ ∀ w : World, (∀ (i : Nat) (x : Value), vs[i]? = some x → w.cell? ⟨b, o + i, none⟩ = some x) → (loadVar t ⟨b, o + off, none⟩).run P w = .ok v w := by
  unfold xload at h
  have ha : ∀ (m : Nat), (⟨b, o + off, none⟩ : Addr).add m = ⟨b, o + (off + m), none⟩ := fun m => by unfold Addr.add; split <;> simp_all <;> omega
  split at h
  · rename_i hag
    split at h
    case isFalse => cases h
    rename_i hle
    cases h
    have hd2 := denL_take ti.size (denL_drop off hd)
    refine ⟨.agg ((vs.drop off).take ti.size).toArray, by simp [TV.den, hd2], fun w hw => ?_⟩
    have hl := denL_length hd
    have h1 := run_loadCells_list (P := P) w ⟨b, o + off, none⟩ ((vs.drop off).take ti.size) (fun j v hj => by
      rw [ha]
      refine hw _ _ ?_
      rw [List.getElem?_take] at hj
      split at hj
      · rw [List.getElem?_drop] at hj; exact hj
      · cases hj)
    have hlen : ((vs.drop off).take ti.size).length = ti.size := by simp; omega
    rw [hlen] at h1
    simp only [loadVar, Sem.run_bind, ok.agg, ok.size, Result.andThen_ok, hag, if_true, h1, Sem.run_pure]
  · rename_i hag
    simp only [Option.map_eq_some_iff] at h
    obtain ⟨c, hc, rfl⟩ := h
    obtain ⟨v, hv, hg⟩ := denL_get hd off c hc
    refine ⟨v, hv, fun w hw => ?_⟩
    have h1 := hw off v hg
    simp only [loadVar, Sem.run_bind, ok.agg, Result.andThen_ok, hag, Bool.false_eq_true, if_false, run_load, h1]

theorem bx_den {β : Bl} {bx : List (List CV)} {w : World} (h : BxHold β bx w) {k : Nat} {cs : List CV} (hk : bx[k]? = some cs) {q : Nat × Nat} (hq : β[k]? = some q) :
    ∃ vs, denL β cs = some vs ∧ ∀ (i : Nat) (x : Value), vs[i]? = some x → w.cell? ⟨q.1, q.2 + i, none⟩ = some x ∧ w.frozen? ⟨q.1, q.2 + i, none⟩ = false := by
  obtain ⟨vs, hvs⟩ := denL_some (β := β) (xs := cs) (fun i x hx => by obtain ⟨y, hy, _⟩ := h k cs q hk hq i x hx; exact ⟨y, hy⟩)
  refine ⟨vs, hvs, fun i x hx => ?_⟩
  have hlen := denL_length hvs
  have hlt : i < cs.length := by rw [← hlen]; exact (List.getElem?_eq_some_iff.1 hx).1
  have hc : cs[i]? = some cs[i] := List.getElem?_eq_getElem hlt
  obtain ⟨y, hy, h1, h2⟩ := h k cs q hk hq i _ hc
  obtain ⟨y', hy', hg⟩ := denL_get hvs i _ hc
  rw [hy] at hy'; cases hy'
  rw [hg] at hx; cases hx
  exact ⟨h1, h2⟩

theorem mapM_fields {P : Program} {w : World} : ∀ (l : List Field), (∀ f ∈ l, ∀ w, (sizeOf f.type).run P w = .ok (P.cellsOf f.type) w) →
    (l.mapM (m := Sem) fun f => do pure (f.offset, ← sizeOf f.type)).run P w = .ok (l.map fun f => (f.offset, P.cellsOf f.type)) w
  | [], _ => rfl
  | f :: l, h => by
    have h1 := h f List.mem_cons_self w
    have h2 := mapM_fields (w := w) l (fun g hg => h g (List.mem_cons_of_mem _ hg))
    simp only [List.mapM_cons, Sem.run_bind, h1, Result.andThen_ok, Sem.run_pure, h2, List.map_cons]

/-- zero cells of a row -/
theorem zero_row (z : List Value) (hz : 0 < z.length) : ∀ n, (List.range (n * z.length)).map (fun i => z.toArray[i % z.toArray.size]!) = (List.replicate n z).flatten
  | 0 => by simp
  | n + 1 => by
    rw [Nat.succ_mul, List.range_add, List.map_append, zero_row z hz n, List.replicate_succ', List.flatten_concat]
    congr 1
    rw [List.map_map]
    apply List.ext_getElem
    · simp
    · intro i h1 h2
      have hi : i < z.length := by simpa using h1
      simp [Nat.mod_eq_of_lt hi, hi]

section
variable {P : Program} {T : Tb} (hT : TOk P T) {β : Bl} {bx : List (List CV)} {e : Operand → Option TV} {ρ : Operand → Value}
  (hρ : ∀ x y, e x = some y → y.den β = some (ρ x)) {w0 : World} (hbx : BxHold β bx w0) (hbl : β.length = bx.length)
include hT hρ hbx hbl

omit hT hbx hbl in
theorem evParts_ok : ∀ {l : List (Nat × Operand)} {ps : List (Nat × List CV)}, evParts e l = some ps → ps.length = l.length ∧
    ∀ (i : Nat) (x : Nat × List CV) (y : Nat × Operand), ps[i]? = some x → l[i]? = some y → x.1 = y.1 ∧ denL β x.2 = some (ρ y.2).cells.toList
  | [], ps, h => by cases h; exact ⟨rfl, fun i x y hx => by simp at hx⟩
  | (i, x) :: l, ps, h => by
    simp only [evParts] at h
    split at h
    case h_2 => cases h
    rename_i y r hy hr
    split at h
    case isFalse => cases h
    rename_i hpl
    cases h
    obtain ⟨h1, h2⟩ := evParts_ok hr
    refine ⟨by simp [h1], fun j a b ha hb => ?_⟩
    cases j with
    | zero => simp at ha hb; subst ha; subst hb; exact ⟨rfl, TV.cells_den (hρ _ _ hy) hpl⟩
    | succ j => exact h2 j a b (by simpa using ha) (by simpa using hb)

theorem load_ok {o : Oper} {t : TypeId} {a : Operand} {r : XR} (ho : o.op = .load t a) (h : xop Ops.std T e bx (.load t a) = some r) : XRok P β bx ρ o r := by
  simp only [xop] at h
  split at h
  case h_2 => cases h
  rename_i ti k off hti hea
  split at h
  case h_2 => cases h
  rename_i cs hcs
  simp only [Option.map_eq_some_iff] at h
  obtain ⟨y, hy, rfl⟩ := h
  have ok := hT.ok hti
  have hk : k < β.length := by rw [hbl]; exact (List.getElem?_eq_some_iff.1 hcs).1
  have hq : β[k]? = some β[k] := List.getElem?_eq_getElem hk
  obtain ⟨vs, hvs, _⟩ := bx_den hbx hcs hq
  obtain ⟨v, hv, hrun⟩ := xload_ok (b := β[k].1) (o := β[k].2) ok hy hvs
  refine ⟨v, hv, fun w hw => ?_⟩
  have hea' := hρ _ _ hea
  simp only [TV.den, CV.den, adr, hq, Option.map_some, Option.some.injEq] at hea'
  obtain ⟨vs', hvs', hc⟩ := bx_den hw hcs hq
  rw [hvs] at hvs'; cases hvs'
  have := hrun w (fun i x hx => (hc i x hx).1)
  simp only [execOp, ho, Instr.loadAt, ← hea', Instr.sureAddr, Sem.run_bind, Sem.run_pure, Result.andThen_ok, this]

omit hT hbx hbl in
theorem move_ok {o : Oper} {x : Operand} {r : XR} (ho : o.op = .move x ∨ o.op = .assign x) (h : (e x).map (fun y => XR.val (.t y)) = some r) : XRok P β bx ρ o r := by
  simp only [Option.map_eq_some_iff] at h
  obtain ⟨y, hy, rfl⟩ := h
  refine ⟨ρ x, hρ _ _ hy, fun w _ => ?_⟩
  rcases ho with ho | ho <;> simp [execOp, ho]

omit hρ hbx hbl in
theorem alloc_ok {o : Oper} {t : TypeId} {r : XR} (ho : o.op = .alloc t) (h : xop Ops.std T e bx (.alloc t) = some r) : XRok P β bx ρ o r := by
  simp only [xop, Option.map_eq_some_iff] at h
  obtain ⟨ti, hti, rfl⟩ := h
  have ok := hT.ok hti
  refine ⟨ti.zero, t, denL_v _ _, fun w => ?_⟩
  obtain ⟨z, hz, hzc⟩ := ok.zero w
  simp [execOp, ho, Instr.alloc, hz, newVar, newRow, ← hzc]

omit hT hbx hbl in
theorem box_ok {o : Oper} {t : TypeId} {x : Operand} {r : XR} (ho : o.op = .box t x) (h : xop Ops.std T e bx (.box t x) = some r) : XRok P β bx ρ o r := by
  simp only [xop] at h
  split at h
  case h_2 => cases h
  rename_i y hy
  split at h
  case isFalse => cases h
  rename_i hpl
  cases h
  refine ⟨(ρ x).cells.toList, t, TV.cells_den (hρ _ _ hy) hpl, fun w => ?_⟩
  simp [execOp, ho, Instr.box, newVar, newRow]

omit hbx hbl in
theorem build_ok {o : Oper} {t : TypeId} {parts : Array (Nat × Operand)} {r : XR} (ho : o.op = .build t parts) (h : xop Ops.std T e bx (.build t parts) = some r) : XRok P β bx ρ o r := by
  simp only [xop] at h
  split at h
  case h_2 => cases h
  rename_i ti ps hti hps
  split at h
  case isFalse => cases h
  rename_i hk
  simp only [Option.map_eq_some_iff] at h
  obtain ⟨cs, hcs, rfl⟩ := h
  have ok := hT.ok hti
  obtain ⟨fs, hfs, hfl, hsz⟩ := ok.flds hk
  obtain ⟨hl, hp⟩ := evParts_ok hρ hps
  have hplace : (fun (i : Nat) => (ti.flds[i]?).map fun (f : Nat × Nat × Nat) => (f.1, f.2.1)) = fun (i : Nat) => (fs.map fun f => (f.offset, P.cellsOf f.type))[i]? := by
    funext i
    rw [← hfl]
    simp
    rfl
  rw [hplace] at hcs
  obtain ⟨a', h1, h2⟩ := fill_ok (β := β) (a := ti.zero.toArray) (pv := (parts.map fun (i, x) => (i, ρ x)).toList) hcs (by simpa using denL_v β ti.zero) (by simp [hl]) (fun i x y hx hy => by
    simp only [Array.toList_map, List.getElem?_map, Option.map_eq_some_iff] at hy
    obtain ⟨z, hz, rfl⟩ := hy
    exact hp i x z hx hz)
  refine ⟨.agg a', by simp [AV.is, TV.den, h2], fun w _ => ?_⟩
  obtain ⟨z, hz, hzc⟩ := ok.zero w
  have hm : (fs.mapM (m := Sem) fun f => do pure (f.offset, ← sizeOf f.type)).run P w = .ok (fs.map fun f => (f.offset, P.cellsOf f.type)) w := by
    obtain ⟨fl⟩ := fs
    rw [List.mapM_toArray]
    simp only [Sem.run_map, mapM_fields fl hsz, Result.andThen_ok, List.map_toArray]
  have hz' : z.cells = ti.zero.toArray := by rw [← hzc]
  simp only [execOp, ho, Instr.build, Sem.run_bind, hz, run_und hfs, hm, Result.andThen_ok, hz', h1, Sem.run_pure]

omit hbx hbl in
theorem buildSlice_ok {o : Oper} {t : TypeId} {len : Nat} {parts : Array (Nat × Operand)} {cs : List CV} (ho : o.op = .buildSlice t len parts) (h : xrow T e t len parts.toList = some cs) : XRok P β bx ρ o (.row cs len) := by
  unfold xrow at h
  split at h
  case h_2 => cases h
  rename_i ti ps hti hps
  split at h
  case isFalse => cases h
  rename_i hk
  split at h
  case h_2 => cases h
  rename_i te hte
  split at h
  case isFalse => cases h
  rename_i hc
  obtain ⟨hc1, hc2, hc3⟩ := hc
  have hcs := h
  have ok := hT.ok hti
  have oke := hT.ok hte
  obtain ⟨hl, hp⟩ := evParts_ok hρ hps
  obtain ⟨a', h1, h2⟩ := fill_ok (β := β) (a := ((List.replicate len te.zero).flatten).toArray) (pv := (parts.map fun (i, x) => (i, ρ x)).toList) hcs (denL_v β _) (by simp [hl]) (fun i x y hx hy => by
    simp only [Array.toList_map, List.getElem?_map, Option.map_eq_some_iff] at hy
    obtain ⟨z, hz, rfl⟩ := hy
    exact hp i x z hx hz)
  refine ⟨a'.toList, ti.elem, h2, fun w => ?_⟩
  obtain ⟨z, hz, hzc⟩ := oke.zero w
  have hz' : z.cells = te.zero.toArray := by rw [← hzc]
  have hrow : (Array.range (len * te.size)).map (fun i => te.zero.toArray[i % te.zero.toArray.size]!) = ((List.replicate len te.zero).flatten).toArray := by
    rw [← Array.toList_inj]
    simp only [Array.toList_map, Array.toList_range]
    rw [← hc2, zero_row te.zero (by omega) len]
  have hu := run_und (P := P) (ok.sl hk)
  have h16 : ¬ (len * te.size > 2 ^ 24) := by omega
  simp only [execOp, ho, Instr.buildSlice, Sem.run_bind, hu, Result.andThen_ok, oke.size, Sem.run_ite, if_neg h16]
  by_cases h0 : len * te.size = 0
  · have hlen : len = 0 := by
      rcases Nat.mul_eq_zero.1 h0 with h | h
      · exact h
      · omega
    subst hlen
    have he : (Array.map (fun i => (#[] : Array Value)[i % (#[] : Array Value).size]!) (Array.range (0 * te.size))) = ((List.replicate 0 te.zero).flatten).toArray := by simp
    simp only [h0, if_true, Sem.run_pure, Result.andThen_ok]
    simp only [Nat.zero_mul] at he
    rw [he, h1]
    simp [newRow]
  · simp only [if_neg h0, Sem.run_bind, hz, Sem.run_pure, Result.andThen_ok, hz', hrow, h1]
    simp [newRow]

omit hρ hbx in
theorem store_ok (hρ : ∀ x y, e x = some y → y.den β = some (ρ x)) {o : Oper} {t : TypeId} {a x : Operand} {r : XR} (ho : o.op = .store t a x) (h : xop Ops.std T e bx (.store t a x) = some r) : XRok P β bx ρ o r := by
  simp only [xop] at h
  split at h
  case h_2 => cases h
  rename_i ti k off y hti hea hex
  split at h
  case h_2 => cases h
  rename_i old hold
  split at h
  case isFalse => cases h
  rename_i hc
  obtain ⟨hc1, hc2, hc3⟩ := hc
  cases h
  have ok := hT.ok hti
  have hk : k < β.length := by rw [hbl]; exact (List.getElem?_eq_some_iff.1 hold).1
  have hq : β[k]? = some β[k] := List.getElem?_eq_getElem hk
  have hcell := TV.cells_den (hρ _ _ hex) hc3
  refine ⟨_, β[k], old, hcell, hq, hold, hc2, fun w hw => ?_⟩
  have hea' := hρ _ _ hea
  simp only [TV.den, CV.den, adr, hq, Option.map_some, Option.some.injEq] at hea'
  obtain ⟨vs, hvs, hcs⟩ := bx_den hw hold hq
  have hlen := denL_length hvs
  have hl2 := denL_length hcell
  have h1 : ∀ (m : Nat), m < old.length → ∃ u, w.cell? ⟨β[k].1, β[k].2 + m, none⟩ = some u ∧ w.frozen? ⟨β[k].1, β[k].2 + m, none⟩ = false := fun m hm => by
    have hm' : vs[m]? = some (vs[m]'(by omega)) := List.getElem?_eq_getElem (by omega)
    exact ⟨_, hcs m _ hm'⟩
  have hst := run_storeCells_cells (P := P) β[k].1 (β[k].2 + off) (ρ x).cells.toList 0 w
    (fun j hj => by obtain ⟨u, h2, _⟩ := h1 (off + j) (by omega); rw [show β[k].2 + off + 0 + j = β[k].2 + (off + j) by omega, h2]; rfl)
    (fun j hj => by obtain ⟨u, _, h3⟩ := h1 (off + j) (by omega); rw [show β[k].2 + off + 0 + j = β[k].2 + (off + j) by omega, h3])
    (fun v hv => by
      obtain ⟨i, hi⟩ := List.getElem?_of_mem hv
      have hi2 : i < y.cells.length := by rw [← hl2]; exact (List.getElem?_eq_some_iff.1 hi).1
      obtain ⟨v', hv', hg⟩ := denL_get hcell i _ (List.getElem?_eq_getElem hi2)
      rw [hi] at hg; cases hg
      have hpl := List.all_eq_true.1 hc3 _ (List.getElem_mem hi2)
      generalize y.cells[i] = c at *
      cases c <;> simp only [CV.den, Option.some.injEq, Option.map_eq_some_iff] at hv'
      · subst hv'; rename_i u; cases u <;> first | rfl | (simp [CV.plain] at hpl)
      all_goals (obtain ⟨_, _, e⟩ := hv'; subst e; rfl))
  have hsz : (ρ x).cells.size = ti.size := by rw [← hc1, ← hl2]; simp
  simp only [execOp, ho, Instr.storeAt, ← hea', Instr.sureAddr, Sem.run_bind, Sem.run_pure, Result.andThen_ok, storeVar, ok.size, Sem.run_ite, hsz, ne_eq, not_true, if_false, hst, Nat.add_zero]
end
end Go.Sx
