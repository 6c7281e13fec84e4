/- A symbolic executor over the model's wp, part 5: that one operation does so, the rest. -/
import Derived.Test.YtkmplcpibgnjcaaSx4
namespace Go.Sx
open Go.RowKit

theorem adr_add {β : Bl} {k off m : Nat} {a : Addr} (h : adr β k off = some a) : adr β k (off + m) = some (a.add m) := by
  unfold adr at *
  cases hk : β[k]? with
  | none => rw [hk] at h; cases h
  | some q => rw [hk] at h; simp at h ⊢; subst h; unfold Addr.add; split <;> simp_all; omega

section
variable {P : Program} {T : Tb} (hT : TOk P T) {β : Bl} {bx : List (List CV)} {e : Operand → Option TV} {ρ : Operand → Value}
  (hρ : ∀ x y, e x = some y → y.den β = some (ρ x))
include hT hρ

omit hT hρ in
theorem val1_ok {o : Oper} {v : Value} (h : ∀ w, (execOp ρ o).run P w = .ok (.value v) w) : XRok P β bx ρ o (val1 v) := ⟨v, rfl, fun w _ => h w⟩

omit hT in
theorem nilCheck_ok {o : Oper} {x : Operand} {r : XR} (ho : o.op = .nilCheck x) (h : xop Ops.std T e bx (.nilCheck x) = some r) : XRok P β bx ρ o r := by
  simp only [xop] at h
  split at h
  · rename_i k off hx
    cases h
    have := hρ _ _ hx
    refine ⟨ρ x, this, fun w _ => ?_⟩
    simp only [TV.den, CV.den, Option.map_eq_some_iff] at this
    obtain ⟨a, _, ha⟩ := this
    simp [execOp, ho, ← ha]
  · rename_i a hx
    cases h
    have := hρ _ _ hx
    simp only [TV.den, CV.den, Option.some.injEq] at this
    exact ⟨_, rfl, fun w _ => by simp [execOp, ho, ← this]⟩
  · rename_i f cs hx
    cases h
    have := hρ _ _ hx
    refine ⟨ρ x, this, fun w _ => ?_⟩
    simp only [TV.den, CV.den, Option.map_eq_some_iff] at this
    obtain ⟨a, _, ha⟩ := this
    simp [execOp, ho, ← ha]
  · cases h

theorem binOp_ok (hc0 : ∀ v, ρ (.const v) = v) {o : Oper} {op : BinOp} {t t' : TypeId} {x y : Operand} {r : XR} (ho : o.op = .binOp op t x y t') (h : xop Ops.std T e bx (.binOp op t x y t') = some r) : XRok P β bx ρ o r := by
  simp only [xop] at h
  split at h
  case h_3 => cases h
  · rename_i ti a b hti hx hy
    have h1 := hρ _ _ hx
    have h2 := hρ _ _ hy
    simp only [TV.den, CV.den, Option.some.injEq] at h1 h2
    split at h
    · rename_i v hv
      cases h
      refine ⟨v, rfl, fun w _ => ?_⟩
      have := xdiv_sound (P := P) (t := t) (x := x) (v := ρ y) hv (fun c hc => by rw [hc, hc0]) w
      simp only [execOp, ho, ← h1, Sem.run_bind] at this ⊢
      rw [this]
      rfl
    · simp only [Option.map_eq_some_iff] at h
      obtain ⟨v, hv, rfl⟩ := h
      refine ⟨v, rfl, fun w _ => ?_⟩
      have := xbin_sound hT hti (x := x) (y := y) hv w
      simp only [execOp, ho, ← h1, ← h2, Sem.run_bind] at this ⊢
      rw [this]
      rfl
  · rename_i ti a b hti hx hy
    simp only [Option.map_eq_some_iff] at h
    obtain ⟨v, hv, rfl⟩ := h
    have h1 := hρ _ _ hx
    have h2 := hρ _ _ hy
    simp only [TV.den, Option.map_eq_some_iff] at h1 h2
    obtain ⟨l1, hl1, e1⟩ := h1
    obtain ⟨l2, hl2, e2⟩ := h2
    refine ⟨v, rfl, fun w _ => ?_⟩
    have := xeq_sound hT hti (x := x) (y := y) hv hl1 hl2 w
    simp only [execOp, ho, ← e1, ← e2, Sem.run_bind] at this ⊢
    rw [this]
    rfl

omit hT in
theorem unOp_ok {o : Oper} {op : UnOp} {t : TypeId} {x : Operand} {r : XR} (ho : o.op = .unOp op t x) (h : xop Ops.std T e bx (.unOp op t x) = some r) : XRok P β bx ρ o r := by
  simp only [xop] at h
  split at h
  · rename_i b hx
    cases h
    have h1 := hρ _ _ hx
    simp only [TV.den, CV.den, Option.some.injEq] at h1
    exact ⟨_, rfl, fun w _ => by simp [execOp, ho, ← h1, Op.unary, Ops.std]⟩
  · rename_i k n hx
    cases h
    have h1 := hρ _ _ hx
    simp only [TV.den, CV.den, Option.some.injEq] at h1
    exact ⟨_, rfl, fun w _ => by simp [execOp, ho, ← h1, Op.unary, Op.intArith, Ops.std]⟩
  · cases h

theorem convert_ok {o : Oper} {src dst : TypeId} {x : Operand} {r : XR} (ho : o.op = .convert src dst x) (h : xop Ops.std T e bx (.convert src dst x) = some r) : XRok P β bx ρ o r := by
  simp only [xop] at h
  split at h
  case h_2 => cases h
  rename_i ts td k n hts htd hx
  simp only [Option.map_eq_some_iff] at h
  obtain ⟨kd, hkd, rfl⟩ := h
  have h1 := hρ _ _ hx
  simp only [TV.den, CV.den, Option.some.injEq] at h1
  have hd := (hT.ok htd).int kd hkd
  obtain ⟨ds, hs⟩ := (hT.ok hts).und
  refine ⟨_, rfl, fun w _ => ?_⟩
  simp only [execOp, ho, ← h1, convert, Sem.run_bind, run_und hs, run_und hd, Result.andThen_ok, Conv.intToInt, Sem.run_pure]
  rfl

theorem fieldAddr_ok {o : Oper} {s : TypeId} {x : Operand} {f : Nat} {r : XR} (ho : o.op = .fieldAddr s x f) (h : xop Ops.std T e bx (.fieldAddr s x f) = some r) : XRok P β bx ρ o r := by
  have key : ∀ (ti : TI) (fd : Nat × Nat × Nat) (a : Addr), T.lookup s = some ti → ti.k = 0 → ti.flds[f]? = some fd → ¬ fd.2.1 = 0 → ρ x = .pointer (some a) → ∀ w, (execOp ρ o).run P w = .ok (.value (.pointer (some (a.add fd.1)))) w := by
    intro ti fd a hti hk hf hz ha w
    obtain ⟨fs, hfs, hfl, hsz⟩ := (hT.ok hti).flds hk
    rw [← hfl, List.getElem?_map, Option.map_eq_some_iff] at hf
    obtain ⟨g, hg, rfl⟩ := hf
    have hg' : fs[f]? = some g := by simpa using hg
    have hs := hsz g (List.mem_of_getElem? hg) w
    simp only [execOp, ho, ha, Instr.fieldAt, Sem.run_bind, run_und hfs, Result.andThen_ok, hg', Instr.sureAddr, Sem.run_pure, fieldPlace, hs, Sem.run_ite, if_neg hz]
  simp only [xop] at h
  split at h
  · rename_i ti k off hti hx
    split at h
    case isFalse => cases h
    rename_i hk
    split at h
    case h_2 => cases h
    rename_i fd hf
    split at h
    case isTrue => cases h
    rename_i hz
    cases h
    have h1 := hρ _ _ hx
    simp only [TV.den, CV.den, Option.map_eq_some_iff] at h1
    obtain ⟨a, ha, he⟩ := h1
    exact ⟨.pointer (some (a.add fd.1)), by simp [AV.is, TV.den, CV.den, adr_add ha], fun w _ => key ti fd a hti hk hf hz he.symm w⟩
  · rename_i ti a hti hx
    split at h
    case isFalse => cases h
    rename_i hk
    split at h
    case h_2 => cases h
    rename_i fd hf
    split at h
    case isTrue => cases h
    rename_i hz
    cases h
    have h1 := hρ _ _ hx
    simp only [TV.den, CV.den, Option.some.injEq] at h1
    exact ⟨_, rfl, fun w _ => key ti fd a hti hk hf hz h1.symm w⟩
  · cases h

theorem indexAddr_ok (hc0 : ∀ v, ρ (.const v) = v) {o : Oper} {t : TypeId} {x i : Operand} {r : XR} (ho : o.op = .indexAddr t x i) (h : xop Ops.std T e bx (.indexAddr t x i) = some r) : XRok P β bx ρ o r := by
  simp only [xop] at h
  split at h
  case h_2 => cases h
  rename_i ti k off kd n hti hx
  split at h
  case isFalse => cases h
  rename_i hc
  obtain ⟨hk, h0, hn⟩ := hc
  split at h
  case h_2 => cases h
  rename_i te hte
  cases h
  have h1 := hρ _ _ hx
  simp only [TV.den, CV.den, Option.map_eq_some_iff] at h1
  obtain ⟨a, ha, he⟩ := h1
  refine ⟨.pointer (some (a.add (n.toNat * te.size))), by simp [AV.is, TV.den, CV.den, adr_add ha], fun w _ => ?_⟩
  have hu := run_und (P := P) ((hT.ok hti).arr hk)
  have hs := (hT.ok hte).size
  have hx' : ρ x = .pointer (some a) := he.symm
  have hi : ρ (.const (.int kd n)) = .int kd n := hc0 _
  simp only [execOp, ho, hx', hi, Instr.indexAt, asIntOf, Sem.run_bind, Sem.run_pure, Result.andThen_ok, hu, Instr.sureAddr, h0, hn, and_self, if_true, hs]

theorem field_ok {o : Oper} {s : TypeId} {x : Operand} {f : Nat} {r : XR} (ho : o.op = .field s x f) (h : xop Ops.std T e bx (.field s x f) = some r) : XRok P β bx ρ o r := by
  simp only [xop] at h
  split at h
  case h_2 => cases h
  rename_i ti xs hti hx
  split at h
  case isFalse => cases h
  rename_i hk
  split at h
  case h_2 => cases h
  rename_i fd hf
  split at h
  case h_2 => cases h
  rename_i tf htf
  split at h
  case isFalse => cases h
  rename_i hsz
  simp only [Option.map_eq_some_iff] at h
  obtain ⟨y, hy, rfl⟩ := h
  obtain ⟨fs, hfs, hfl, hfsz⟩ := (hT.ok hti).flds hk
  rw [← hfl, List.getElem?_map, Option.map_eq_some_iff] at hf
  obtain ⟨g, hg, rfl⟩ := hf
  have hg' : fs[f]? = some g := by simpa using hg
  have h1 := hρ _ _ hx
  simp only [TV.den, Option.map_eq_some_iff] at h1
  obtain ⟨l, hl, he⟩ := h1
  have okf := hT.ok htf
  unfold xload at hy
  simp only at hy htf hsz
  split at hy
  · rename_i hag
    split at hy
    case isFalse => cases hy
    cases hy
    have hd2 := denL_take tf.size (denL_drop g.offset hl)
    refine ⟨.agg ((l.drop g.offset).take tf.size).toArray, by simp [AV.is, TV.den, hd2], fun w _ => ?_⟩
    simp only [execOp, ho, ← he, Instr.field, Sem.run_bind, run_und hfs, Result.andThen_ok, hg', asAgg, Sem.run_pure, part, okf.agg, hag, if_true, okf.size]
    rw [List.extract_toArray, List.extract_eq_take_drop, Nat.add_sub_cancel_left]
  · rename_i hag
    simp only [Option.map_eq_some_iff] at hy
    obtain ⟨c, hc, rfl⟩ := hy
    obtain ⟨v, hv, hgv⟩ := denL_get hl g.offset c hc
    refine ⟨v, hv, fun w _ => ?_⟩
    have hgv' : l.toArray[g.offset]? = some v := by simpa using hgv
    simp only [execOp, ho, ← he, Instr.field, Sem.run_bind, run_und hfs, Result.andThen_ok, hg', asAgg, Sem.run_pure, part, okf.agg, hag, Bool.false_eq_true, if_false, hgv']

omit hT hρ in
theorem allP_den {β : Bl} : ∀ {xs : List TV} {cs : List (Nat × Nat)} {vs : List Value}, allP xs = some cs → tvsDen β xs = some vs → capsDen β cs = some vs
  | [], cs, vs, h, hv => by cases h; exact hv
  | .c (.p k off) :: l, cs, vs, h, hv => by
    simp only [allP, Option.map_eq_some_iff] at h
    obtain ⟨r, hr, rfl⟩ := h
    simp only [tvsDen, TV.den, CV.den, Option.bind_eq_some_iff, Option.map_eq_some_iff] at hv
    obtain ⟨v, ⟨a, ha, rfl⟩, vs', hvs', rfl⟩ := hv
    simp only [capsDen, Option.bind_eq_some_iff, Option.map_eq_some_iff]
    exact ⟨a, ha, vs', allP_den hr hvs', rfl⟩

omit hT in
theorem mapO_den : ∀ {l : List Operand} {xs : List TV}, mapO e l = some xs → tvsDen β xs = some (l.map ρ)
  | [], xs, h => by cases h; rfl
  | x :: l, xs, h => by
    simp only [mapO] at h
    split at h
    case h_2 => cases h
    rename_i y r hy hr
    cases h
    simp only [tvsDen, Option.bind_eq_some_iff, Option.map_eq_some_iff, List.map_cons]
    exact ⟨_, hρ _ _ hy, _, mapO_den hr, rfl⟩

omit hT in
theorem makeFunc_ok {o : Oper} {fn : Fn} {first captured : Array Operand} {r : XR} (ho : o.op = .makeFunc fn first captured) (h : xop Ops.std T e bx (.makeFunc fn first captured) = some r) : XRok P β bx ρ o r := by
  cases fn <;> simp only [xop] at h
  case func f =>
    split at h
    case h_2 => cases h
    rename_i xs hf hxs
    simp only [Option.map_eq_some_iff] at h
    obtain ⟨cs, hcs, rfl⟩ := h
    have h1 := allP_den hcs (mapO_den hρ hxs)
    refine ⟨.func (.func f) #[] (captured.toList.map ρ).toArray, by simp [AV.is, TV.den, CV.den, h1], fun w _ => ?_⟩
    have e1 : first = #[] := by apply Array.toList_inj.1; simpa using hf
    subst e1
    have e2 : captured.map ρ = (captured.toList.map ρ).toArray := by apply Array.toList_inj.1; simp
    simp [execOp, ho, Instr.makeFunc, e2]
  all_goals cases h

theorem len_ok {o : Oper} {args : Array Operand} {ats : Array TypeId} {b : Builtin} {r : XR} (ho : o.op = .call { callee := .builtin b, args, argTypes := ats }) (h : xop Ops.std T e bx (.call { callee := .builtin b, args, argTypes := ats }) = some r) : XRok P β bx ρ o r := by
  have hrun : ∀ w, (execOp ρ o).run P w = (builtin b ats o.type (args.map fun | .const _ => true | _ => false) (args.map ρ)).run P w := fun w => by
    simp only [execOp, ho, resolve, Sem.run_bind, Sem.run_pure, Result.andThen_ok, invoke]
    rfl
  have hargs : ∀ {l : List Operand}, args.toList = l → args.map ρ = (l.map ρ).toArray := fun {l} hl => by apply Array.toList_inj.1; simp [hl]
  have hats : ∀ {l : List TypeId}, ats.toList = l → ats = l.toArray := fun {l} hl => by apply Array.toList_inj.1; simp [hl]
  simp only [xop] at h
  split at h
  · -- len
    rename_i x t hb ha ht
    split at h
    case h_2 => cases h
    rename_i ti y hti hx
    simp only [Option.map_eq_some_iff] at h
    obtain ⟨v, hv, rfl⟩ := h
    have h1 := hρ _ _ hx
    refine ⟨v, rfl, fun w _ => ?_⟩
    rw [hrun, hargs ha, hats ht]
    unfold xlen at hv
    split at hv
    · rename_i a n c
      split at hv
      case isFalse => cases hv
      rename_i hk
      cases hv
      simp only [TV.den, CV.den, Option.some.injEq] at h1
      simp [builtin, Builtin.len_, run_und ((hT.ok hti).sl hk), ← h1, goInt, Ops.std]
    · rename_i k off n c
      split at hv
      case isFalse => cases hv
      rename_i hk
      cases hv
      simp only [TV.den, CV.den, Option.map_eq_some_iff] at h1
      obtain ⟨a, _, h1⟩ := h1
      simp [builtin, Builtin.len_, run_und ((hT.ok hti).sl hk), ← h1, goInt, Ops.std]
    · rename_i s
      split at hv
      case isFalse => cases hv
      rename_i hk
      cases hv
      simp only [TV.den, CV.den, Option.some.injEq] at h1
      simp [builtin, Builtin.len_, run_und ((hT.ok hti).str hk), ← h1, goInt, Ops.std]
    · cases hv
  · -- cap
    rename_i x t hb ha ht
    split at h
    case h_2 => cases h
    rename_i ti y hti hx
    simp only [Option.map_eq_some_iff] at h
    obtain ⟨v, hv, rfl⟩ := h
    have h1 := hρ _ _ hx
    refine ⟨v, rfl, fun w _ => ?_⟩
    rw [hrun, hargs ha, hats ht]
    unfold xcap at hv
    split at hv
    · rename_i a n c
      split at hv
      case isFalse => cases hv
      rename_i hk
      cases hv
      simp only [TV.den, CV.den, Option.some.injEq] at h1
      simp [builtin, Builtin.cap_, run_und ((hT.ok hti).sl hk), ← h1, goInt, Ops.std]
    · cases hv
  · rename_i x y hb ha
    split at h
    case h_2 => cases h
    rename_i k a k' b' hx hy
    cases h
    have h1 := hρ _ _ hx
    have h2 := hρ _ _ hy
    simp only [TV.den, CV.den, Option.some.injEq] at h1 h2
    refine ⟨_, rfl, fun w _ => ?_⟩
    rw [hrun, hargs ha]
    simp [builtin, Builtin.max_, Builtin.max2, ← h1, ← h2, Ops.std]
  · rename_i x y hb ha
    split at h
    case h_2 => cases h
    rename_i k a k' b' hx hy
    cases h
    have h1 := hρ _ _ hx
    have h2 := hρ _ _ hy
    simp only [TV.den, CV.den, Option.some.injEq] at h1 h2
    refine ⟨_, rfl, fun w _ => ?_⟩
    rw [hrun, hargs ha]
    simp [builtin, Builtin.min_, Builtin.min2, ← h1, ← h2, Ops.std]
  · cases h
end
end Go.Sx
