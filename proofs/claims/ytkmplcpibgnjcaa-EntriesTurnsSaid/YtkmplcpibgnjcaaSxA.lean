/- A symbolic executor over the model's wp, part 10: the run is sound. -/
import Derived.Test.YtkmplcpibgnjcaaSxH
namespace Go.Sx
open Go.RowKit

theorem tvsDen_append {β : Bl} : ∀ {xs ys : List TV} {a b : List Value}, tvsDen β xs = some a → tvsDen β ys = some b → tvsDen β (xs ++ ys) = some (a ++ b)
  | [], ys, a, b, h, h' => by cases h; exact h'
  | x :: xs, ys, a, b, h, h' => by
    simp only [tvsDen, Option.bind_eq_some_iff, Option.map_eq_some_iff, List.cons_append] at h ⊢
    obtain ⟨v, hv, r, hr, rfl⟩ := h
    exact ⟨v, hv, r ++ b, tvsDen_append hr h', rfl⟩
theorem caps_tvs {β : Bl} : ∀ {cs : List (Nat × Nat)} {vs : List Value}, capsDen β cs = some vs → tvsDen β (cs.map fun q => TV.c (.p q.1 q.2)) = some vs
  | [], vs, h => h
  | q :: cs, vs, h => by
    simp only [capsDen, Option.bind_eq_some_iff, Option.map_eq_some_iff] at h
    obtain ⟨a, ha, r, hr, rfl⟩ := h
    simp only [List.map_cons, tvsDen, TV.den, CV.den, Option.bind_eq_some_iff, Option.map_eq_some_iff]
    exact ⟨_, ⟨a, ha, rfl⟩, r, caps_tvs hr, rfl⟩

theorem put_same_bx {st st' : St} {d : Option Nat} {av : AV} (h : st.put d av = some st') : st'.bx = st.bx := by
  cases d with
  | none => simp only [St.put] at h; cases h; rfl
  | some d => simp only [St.put] at h; split at h <;> cases h; rfl

section
variable {P : Program} {T : Tb} (hT : TOk P T) {C : Code} {Q Q' : Exit → Act → World → Prop} {G : Gh} {β : Bl} {st : St} {a : Act} {w : World} (r : Rel β st a) (g : Good G β st.bx w)
  {gd : Option (Nat × Bool)} (hg : GdOk gd a) {its : List It} {o : Oper}

include r in
theorem put_bx {d : Option Nat} {av : AV} {st' : St} {v : Value} {l : Bl} (hp : st.put d av = some st') (hv : av.is (β ++ l) v) (bx : List (List CV)) : Rel (β ++ l) { st' with bx := bx } (a.put d v) :=
  ((r.mono (l := l)).put hp hv).1.bx bx

include r hg in
theorem prim_wp {xs : List TV} (hxs : mapO (ev st gd) o.op.operands.toList = some xs) (h : EvG P C Q G o.dst its st (.prim o.op o.type xs)) (hit : ItOk C G.H its st.bx) (g : Good G β st.bx w)
    {K : Act → World → Prop} (hK : ∀ l G' st' a' w', Rel (β ++ l) st' a' → Good G' (β ++ l) st'.bx w' → ItOk C G'.H its st'.bx → WP P C Q G' its st' → K a' w') : o.wp P a w K Q' := by
  have hρ : ∀ x y, ev st gd x = some y → y.den β = some (a.eval x) := fun x y hy => ev_den r hg hy
  rcases h hit β w _ a.eval g (mapO_den hρ hxs) rfl with ⟨v, w', av, st', G', l, bx', hrun, hv, hp, g', hi, hw⟩ | ⟨w', G', l, bx', hd, hrun, g', hi, hw⟩
  · have hrun' : (execOp a.eval o).run P w = .ok (.value v) w' := hrun
    simp only [Oper.wp, hrun', Oper.upon]
    exact hK l G' _ _ _ (put_bx r hp hv bx') g' hi hw
  · have hrun' : (execOp a.eval o).run P w = .ok .skip w' := hrun
    simp only [Oper.wp, hrun', Oper.upon, hd, Act.put]
    exact hK l G' _ _ _ ((r.mono (l := l)).bx bx') g' hi hw

include hT r hg in
/-- an event that is a value -/
theorem evt_val {e : Evt} (hv : isVal e = true) (he : evt T (ev st gd) o = some e) (h : EvG P C Q G o.dst its st e) :
    ∃ v av st', (∀ w, Agree (hpOf G its) w → (execOp a.eval o).run P w = .ok (.value v) w) ∧ av.is β v ∧ st.put o.dst av = some st' ∧ WP P C Q G its st' := by
  have hρ : ∀ x y, ev st gd x = some y → y.den β = some (a.eval x) := fun x y hy => ev_den r hg hy
  have pr : ∀ {x : Evt}, primO (ev st gd) o = some x → isVal x = true → False := fun hx hh => by
    obtain ⟨xs, h1, rfl⟩ := primO_ok hx
    cases hh
  unfold evt at he
  split at he
  · split at he
    · cases he; cases hv
    · cases he
  · -- an element's address
    rename_i t x i ho
    split at he
    case h_2 => cases he
    rename_i ti A n m k ii hti hx hi
    split at he
    case isFalse => cases he
    rename_i hk
    split at he
    case h_2 => cases he
    rename_i te hte
    cases he
    obtain ⟨h0, hn, ad, rfl, hh⟩ := h
    obtain ⟨st', hp, hw⟩ := hh _ rfl
    have h1 := hρ _ _ hx
    have h2 := hρ _ _ hi
    simp only [TV.den, CV.den, Option.some.injEq] at h1 h2
    have hu := run_und (P := P) ((hT.ok hti).sl hk)
    refine ⟨_, .t (.c (.v _)), st', fun w _ => ?_, rfl, hp, hw⟩
    simp only [execOp, ho, ← h1, ← h2, Instr.indexAt, asIntOf, Sem.run_bind, Sem.run_pure, Result.andThen_ok, hu, h0, hn, and_self, if_true, (hT.ok hte).size]
  · -- a load
    rename_i t x ho
    split at he
    case h_2 => cases he
    rename_i ti ad hti hx
    cases he
    obtain ⟨vs, hl, hc, hh⟩ := h
    have h1 := hρ _ _ hx
    simp only [TV.den, CV.den, Option.some.injEq] at h1
    have ok := hT.ok hti
    have hcell : ∀ w, Agree (hpOf G its) w → ∀ (j : Nat) (x : Value), vs[j]? = some x → w.cell? (ad.add j) = some x := fun w hag j x hx => by
      have h2 := hc j x hx
      unfold hat at h2
      split at h2
      case isFalse => cases h2
      rename_i hs
      have h3 := hag _ _ _ h2
      have : ad.add j = ⟨ad.block, ad.off + j, none⟩ := by
        obtain ⟨b, o, s⟩ := ad
        simp only at hs; subst hs
        unfold Addr.add; split <;> simp_all
      rw [this]; exact h3
    rcases hh with ⟨hag, st', hp, hw⟩ | ⟨hag, v, st', rfl, hp, hw⟩
    · refine ⟨.agg vs.toArray, _, st', fun w hagr => ?_, by simp [AV.is, TV.den, denL_v], hp, hw⟩
      have h4 := run_loadCells_list (P := P) w ad vs (hcell w hagr)
      rw [hl] at h4
      simp only [execOp, ho, ← h1, Instr.loadAt, Instr.sureAddr, Sem.run_bind, Sem.run_pure, Result.andThen_ok, loadVar, ok.agg, ok.size, hag, if_true, h4]
    · refine ⟨v, .t (.c (.v _)), st', fun w hagr => ?_, rfl, hp, hw⟩
      have h4 := hcell w hagr 0 v rfl
      have : ad.add 0 = ad := by simp [Addr.add]
      rw [this] at h4
      simp only [execOp, ho, ← h1, Instr.loadAt, Instr.sureAddr, Sem.run_bind, Sem.run_pure, Result.andThen_ok, loadVar, ok.agg, hag, Bool.false_eq_true, if_false, run_load, h4]
  · -- a slice
    rename_i t x lo hi ho
    split at he
    case h_2 => exact (pr he hv).elim
    rename_i ti A n cap l hh' hti hx hlo hhi
    split at he
    case isFalse => exact (pr he hv).elim
    rename_i hk
    split at he
    case h_2 => cases he
    rename_i te hte
    cases he
    obtain ⟨h0, h01, h02, hh⟩ := h
    obtain ⟨st', hp, hw⟩ := hh _ _ _ rfl rfl rfl
    have h1 := hρ _ _ hx
    simp only [TV.den, CV.den, Option.some.injEq] at h1
    have io : ∀ (y : Option Operand) (z : Option Int), intO (ev st gd) y = some z → (y = none ∧ z = none) ∨ ∃ u kd n, y = some u ∧ z = some n ∧ a.eval u = .int kd n := by
      intro y z hy
      cases y with
      | none => simp [intO] at hy; exact .inl ⟨rfl, hy.symm⟩
      | some u =>
        simp only [intO] at hy
        split at hy
        case h_2 => cases hy
        rename_i kd n hu
        cases hy
        have h5 := hρ _ _ hu
        simp only [TV.den, CV.den, Option.some.injEq] at h5
        exact .inr ⟨u, kd, n, rfl, rfl, h5.symm⟩
    have hu := run_und (P := P) ((hT.ok hti).sl hk)
    have hs := (hT.ok hte).size
    refine ⟨.slice (if cap = (l.getD 0).toNat then A else A.map (·.add ((l.getD 0).toNat * te.size))) ((hh'.getD n).toNat - (l.getD 0).toNat) (cap - (l.getD 0).toNat), .t (.c (.v _)), st', fun w _ => ?_, rfl, hp, hw⟩
    have hb : ∀ (u : Value) (kd : IntKind) (m : Int) (y : Nat) (c : BoundsCode), u = .int kd m → 0 ≤ m → m ≤ y → (Instr.sliceBound u y c).run P w = .ok m.toNat w := by
      intro u kd m y c hu' hm0 hm1
      subst hu'
      simp only [Instr.sliceBound, asIntOf, Sem.run_bind, Sem.run_pure, Result.andThen_ok, Sem.run_ite, hm0, hm1, and_self, if_true]
    have key : ∀ (lv hv : Option Value), (lv = none ∧ l = none ∨ ∃ kd m, lv = some (.int kd m) ∧ l = some m) → (hv = none ∧ hh' = none ∨ ∃ kd m, hv = some (.int kd m) ∧ hh' = some m) →
        (Instr.sliceBounds true n cap lv hv none).run P w = .ok ((l.getD 0).toNat, (hh'.getD n).toNat, cap) w := by
      intro lv hv h6 h7
      rcases h7 with ⟨rfl, rfl⟩ | ⟨kd, m, rfl, rfl⟩ <;> rcases h6 with ⟨rfl, rfl⟩ | ⟨kd', m', rfl, rfl⟩ <;> simp only [Option.getD_none, Option.getD_some] at h0 h01 h02
      · simp [Instr.sliceBounds]
      · have e1 := hb _ kd' m' n .sliceB rfl h0 h01
        simp [Instr.sliceBounds, e1]
      · have e1 := hb _ kd m cap .sliceAcap rfl (by omega) h02
        simp [Instr.sliceBounds, e1]
      · have e1 := hb _ kd m cap .sliceAcap rfl (by omega) h02
        have e2 := hb _ kd' m' m.toNat .sliceB rfl h0 (by omega)
        simp [Instr.sliceBounds, e1, e2]
    have hkey := key (lo.map a.eval) (hi.map a.eval)
      (by rcases io lo l hlo with ⟨rfl, rfl⟩ | ⟨u, kd, m, rfl, rfl, h5⟩; exact .inl ⟨rfl, rfl⟩; exact .inr ⟨kd, m, by simp [h5], rfl⟩)
      (by rcases io hi hh' hhi with ⟨rfl, rfl⟩ | ⟨u, kd, m, rfl, rfl, h5⟩; exact .inl ⟨rfl, rfl⟩; exact .inr ⟨kd, m, by simp [h5], rfl⟩)
    simp only [execOp, ho, ← h1, Instr.sliceAt, Instr.slice, Sem.run_bind, hu, Result.andThen_ok, Option.map_none, hkey, hs, Sem.run_pure]
  · simp only [Option.map_eq_some_iff] at he
    obtain ⟨_, _, rfl⟩ := he
    cases hv
  all_goals first | exact (pr he hv).elim | cases he | skip
  all_goals (repeat' (split at he))
  all_goals first | exact (pr he hv).elim | (cases he; cases hv) | cases he

include hT r hg in
theorem row_wp {t : TypeId} {len : Nat} {parts : Array (Nat × Operand)} {cs : List CV} (ho : o.op = .buildSlice t len parts) (hx : xrow T (ev st gd) t len parts.toList = some cs)
    (h : EvG P C Q G o.dst its st (.row cs len)) (hit : ItOk C G.H its st.bx) (g : Good G β st.bx w)
    {K : Act → World → Prop} (hK : ∀ l G' st' a' w', Rel (β ++ l) st' a' → Good G' (β ++ l) st'.bx w' → ItOk C G'.H its st'.bx → WP P C Q G' its st' → K a' w') : o.wp P a w K Q' := by
  have hρ : ∀ x y, ev st gd x = some y → y.den β = some (a.eval x) := fun x y hy => ev_den r hg hy
  obtain ⟨vs, te, hd, hrun⟩ := buildSlice_ok (P := P) (bx := st.bx) hT hρ ho hx
  obtain ⟨vs', rfl, hh⟩ := h hit
  rw [denL_v] at hd; cases hd
  obtain ⟨st', hp, hw⟩ := hh w.heap.size (fun o => g.free)
  have hb := put_same_bx hp
  simp only [Oper.wp, hrun w, Oper.upon]
  have g1 := (good_row g (w1 := w) (vs := vs) (cs := vs.toArray) (n := 1) (c := 1) (k := vs.length) (e := te) rfl rfl rfl rfl (by omega) (by simp) (by simp) (Nat.le_refl _) (by simp [maxLen])).dropR (R' := G.R) (List.sublist_cons_self ..) (fun q hq => by obtain ⟨x, hx, e, _⟩ := g.zs q hq; exact ⟨x, hx, e⟩)
  have := put_bx r (l := []) (v := .slice (some ⟨w.heap.size, 0, none⟩) len len) hp rfl st'.bx
  refine hK [] { G with H := G.H.add w.heap.size 0 vs } st' _ _ this (by rw [List.append_nil, hb]; exact g1) (by rw [hb]; exact hit.le (Hp.le_add fun o _ => g.free)) hw

include hT r hg in
theorem app_wp {t : TypeId} {s x : Operand} {ti te : TI} {A B : Option Addr} {n c m c0 : Nat} (ho : o.op = .call { callee := .builtin .append, args := #[s, x], argTypes := #[t, t] }) (hti : T.lookup t = some ti) (hk : ti.k = 2)
    (hte : T.lookup ti.elem = some te) (hz : te.zero.length = te.size ∧ 0 < te.size) (hs : ev st gd s = some (.c (.v (.slice A n c)))) (hx : ev st gd x = some (.c (.v (.slice B m c0))))
    (h : EvG P C Q G o.dst its st (.app te.size ti.elem A n c B m)) (hit : ItOk C G.H its st.bx) (g : Good G β st.bx w)
    {K : Act → World → Prop} (hK : ∀ l G' st' a' w', Rel (β ++ l) st' a' → Good G' (β ++ l) st'.bx w' → ItOk C G'.H its st'.bx → WP P C Q G' its st' → K a' w') : o.wp P a w K Q' := by
  have hρ : ∀ x y, ev st gd x = some y → y.den β = some (a.eval x) := fun x y hy => ev_den r hg hy
  have es := hρ _ _ hs
  have ex := hρ _ _ hx
  simp only [TV.den, CV.den, Option.some.injEq] at es ex
  have hu := (hT.ok hti).sl hk
  obtain ⟨i, z, hi, hz1, hz2, hz3, hby⟩ := (hT.ok hte).info
  obtain ⟨hzl, hpos⟩ := hz
  have hzs : z.cells.size = i.size := by rw [hz2, ← hzl, ← hz3]; simp
  obtain ⟨xs, ys, hxs, hys, h1c, hnc, hbd, hA, hroom, hh⟩ := h hit
  have run (v : Value) (w' : World) (hr : (Builtin.append_ #[t, t] o.type #[.slice A n c, .slice B m c0]).run P w = .ok v w') : (execOp a.eval o).run P w = .ok (.value v) w' := by
    unfold execOp
    simp only [ho, resolve, invoke, builtin, Sem.run_bind, Sem.run_pure, Result.andThen_ok, List.map_toArray, List.map_cons, List.map_nil, ← es, ← ex, hr]
  have fin : ∀ A' c' G' w', (Builtin.append_ #[t, t] o.type #[.slice A n c, .slice B m c0]).run P w = .ok (.slice A' (n + m) c') w' → AppNext G te.size ti.elem A n c m xs ys A' c' G' → Good G' β st.bx w' → Hp.le G.H G'.H → o.wp P a w K Q' := by
    intro A' c' G' w' hr hn hg' hle
    obtain ⟨q1, _, q2, _⟩ := hn.out hxs hys (fun b _ hR => (g.rows _ hR).2.2.1) hnc
    obtain ⟨st', hp, hw⟩ := hh A' c' G' hn hle q1 q2
    have hb := put_same_bx hp
    simp only [Oper.wp, run _ _ hr, Oper.upon]
    have := put_bx r (l := []) (v := .slice A' (n + m) c') hp rfl st'.bx
    exact hK [] G' st' _ _ this (by rw [List.append_nil, hb]; exact hg') (by rw [hb]; exact hit.le hle) hw
  have hmb : (n + m) * i.bytes ≤ 140737488355328 := Nat.le_trans (Nat.mul_le_mul hbd hby) (by decide)
  by_cases hm : m = 0
  · subst hm
    exact fin A c G w (run_append_zero hu hi _ A B n c c0 hnc w) (.inl ⟨rfl, rfl, rfl, rfl⟩) g (Hp.le_refl _)
  · obtain ⟨bd, rfl⟩ : ∃ bd, B = some bd := by
      have : 0 < ys.length := by rw [hys.1]; exact Nat.mul_pos (by omega) hpos
      obtain ⟨bd, h1, _⟩ := hys.2 0 ys[0] (List.getElem?_eq_getElem this)
      exact ⟨bd, h1⟩
    by_cases hr : n + m ≤ c
    · obtain ⟨b, rfl, hR⟩ := hroom (by omega) hr
      obtain ⟨r1, r2, r3, r4, r6, r7, cs, r5, r8⟩ := g.rows _ hR
      simp only at r5 r8 r3 r4
      have hfit : n * i.size + ys.length ≤ cs.size := by rw [hys.1, r8, hz2, ← Nat.add_mul]; exact Nat.mul_le_mul_right _ hr
      have h2 := run_append_room (P := P) w t o.type ti.elem i hu hi b n c cs r5 bd m c0 ys (by rw [hz2]; exact hys.1) (hys.cells g.imm) h1c hr hfit
      refine fin _ c { G with H := G.H.add b (n * te.size) ys, R := ⟨b, n + m, c, te.size, ti.elem⟩ :: G.R.filter (fun x => x.b != b), Z := G.zpush b ys.length } _ h2 (.inr (.inl ⟨b, rfl, rfl, rfl, hr, hR, rfl⟩)) ?_ (Hp.le_add fun o ho => r3 o ho)
      have := good_push g hR r5 hys.1 hr
      rw [← hz2] at this ⊢
      exact this
    · have hge := grownCap_ge w (n + m) c ti.elem
      have hle := grownCap_le_maxLen w (n + m) c ti.elem (by simp only [maxLen]; omega)
      have hrow : ∀ (zz : Array Value) (hzz : zz.size = te.size), Good { G with H := G.H.add w.heap.size 0 (xs ++ ys), R := ⟨w.heap.size, n + m, grownCap w (n + m) c ti.elem, te.size, ti.elem⟩ :: G.R } β st.bx
          (w.drew.alloc (.cells (xs.toArray ++ ys.toArray ++ Builtin.zeroCells zz (grownCap w (n + m) c ti.elem - (n + m))) ti.elem)) := fun zz hzz => by
        refine good_row g (w1 := w.drew) rfl rfl rfl rfl (by rw [List.length_append, hxs.1, hys.1, Nat.add_mul]) ?_ ?_ hge hle
        · simp only [Array.size_append, List.size_toArray, size_zeroCells, hzz, hxs.1, hys.1, ← Nat.add_mul]
          congr 1
          omega
        · have hl : (n + m) * te.size = (xs ++ ys).length := by rw [List.length_append, hxs.1, hys.1, Nat.add_mul]
          simp only [Array.toList_append, List.append_assoc]
          rw [hl, ← List.append_assoc]
          exact List.take_left
      refine fin (some ⟨w.heap.size, 0, none⟩) (grownCap w (n + m) c ti.elem) _ _ ?_ (.inr (.inr ⟨w.heap.size, fun o => g.free, rfl, ⟨hge, by omega⟩, rfl⟩)) (hrow z.cells (by rw [hzs, hz2])) (Hp.le_add fun o _ => g.free)
      cases A with
      | none =>
        have hc := hA rfl
        subst hc
        have hn0 : n = 0 := by omega
        subst hn0
        have hx0 : xs = [] := List.eq_nil_of_length_eq_zero (by simpa using hxs.1)
        subst hx0
        have h2 := run_append_nil (P := P) w t o.type ti.elem i z hu hi hz1 bd m c0 ys (by rw [hz2]; exact hys.1) (hys.cells g.imm) (by omega) (by omega) (by rw [Nat.zero_add] at hmb; omega)
        simp only [Nat.zero_add, Array.empty_append] at h2 ⊢
        simpa using h2
      | some ad => exact run_append_grow (P := P) w t o.type ti.elem i z hu hi hz1 ad n c xs (by rw [hz2]; exact hxs.1) (hxs.cells g.imm) bd m c0 ys (by rw [hz2]; exact hys.1) (hys.cells g.imm) (by omega) (by omega) (growslice_fits (by omega) hmb)

include hT r hg in
theorem appz_wp {t t' : TypeId} {s x : Operand} {ti ti' te : TI} {A : Option Addr} {n c : Nat} {kd : IntKind} {m : Int} (ho : o.op = .call { callee := .builtin .append, args := #[s, x], argTypes := #[t, t'] }) (hti : T.lookup t = some ti) (hk : ti.k = 2)
    (hte : T.lookup ti.elem = some te) (hz : te.zero.length = te.size ∧ 0 < te.size) (hti' : T.lookup t' = some ti') (hik : ti'.ik.isSome = true) (hs : ev st gd s = some (.c (.v (.slice A n c)))) (hx : ev st gd x = some (.c (.v (.int kd m))))
    (h : EvG P C Q G o.dst its st (.appz te.size te.zero ti.elem A n c m)) (hit : ItOk C G.H its st.bx) (g : Good G β st.bx w)
    {K : Act → World → Prop} (hK : ∀ l G' st' a' w', Rel (β ++ l) st' a' → Good G' (β ++ l) st'.bx w' → ItOk C G'.H its st'.bx → WP P C Q G' its st' → K a' w') : o.wp P a w K Q' := by
  have hρ : ∀ x y, ev st gd x = some y → y.den β = some (a.eval x) := fun x y hy => ev_den r hg hy
  have es := hρ _ _ hs
  have ex := hρ _ _ hx
  simp only [TV.den, CV.den, Option.some.injEq] at es ex
  obtain ⟨kd', hkd⟩ := Option.isSome_iff_exists.1 hik
  have hu := (hT.ok hti).sl hk
  have hu' := (hT.ok hti').int kd' hkd
  obtain ⟨i, z, hi, hz1, hz2, hz3, hby⟩ := (hT.ok hte).info
  obtain ⟨hzl, hpos⟩ := hz
  have hzs : z.cells.size = i.size := by rw [hz2, ← hzl, ← hz3]; simp
  obtain ⟨rfl, rfl, rfl, h0, h1, hh⟩ := h hit
  obtain ⟨cs, c', hr, h2, h3, h4⟩ := run_append_ints (P := P) hu hi hz1 (kd' := kd) hu' hzs o.type m h0 h1 hby w
  have run : (execOp a.eval o).run P w = .ok (.value (.slice (some ⟨w.heap.size, 0, none⟩) m.toNat c')) (w.drew.alloc (.cells cs ti.elem)) := by
    unfold execOp
    simp only [ho, resolve, invoke, builtin, Sem.run_bind, Sem.run_pure, Result.andThen_ok, List.map_toArray, List.map_cons, List.map_nil, ← es, ← ex, hr]
  obtain ⟨st', hp, hw⟩ := hh w.heap.size c' (fun o => g.free) h2
  have hb := put_same_bx hp
  simp only [Oper.wp, run, Oper.upon]
  have := put_bx r (l := []) (v := .slice (some ⟨w.heap.size, 0, none⟩) m.toNat c') hp rfl st'.bx
  have g1 := good_row g (w1 := w.drew) (vs := []) (cs := cs) (n := 0) (c := c') (k := te.size) (e := ti.elem) rfl rfl rfl rfl (by simp) (by rw [← hz2]; exact h4) (by simp) (Nat.zero_le _) h3
  have hH : G.H.add w.heap.size 0 [] = G.H := by
    funext b o
    exact Hp.add_out (by by_cases hb : b = w.heap.size <;> simp [hb])
  rw [hH] at g1
  exact hK [] { G with R := ⟨w.heap.size, 0, c', te.size, ti.elem⟩ :: G.R } st' _ _ this (by rw [List.append_nil, hb]; exact g1) (by rw [hb]; exact hit) hw

include hT r g hg in
theorem evt_wp {e : Evt} (he : evt T (ev st gd) o = some e) (h : EvG P C Q G o.dst its st e) (hit : ItOk C G.H its st.bx) (hle : Hp.le (hpOf G its) G.H)
    {K : Act → World → Prop} (hK : ∀ l G' st' a' w', Rel (β ++ l) st' a' → Good G' (β ++ l) st'.bx w' → ItOk C G'.H its st'.bx → WP P C Q G' its st' → K a' w') : o.wp P a w K Q' := by
  have hρ : ∀ x y, ev st gd x = some y → y.den β = some (a.eval x) := fun x y hy => ev_den r hg hy
  cases hv : isVal e with
  | true =>
    obtain ⟨v, av, st', hrun, ha, hp, hw⟩ := evt_val hT r hg hv he h
    have hb := put_same_bx hp
    simp only [Oper.wp, hrun w (fun b o v hh => g.imm b o v (hle b o v hh)), Oper.upon]
    have := put_bx r (l := []) hp (by rw [List.append_nil]; exact ha) st'.bx
    exact hK [] G st' _ _ this (by rw [List.append_nil, hb]; exact g) (by rw [hb]; exact hit) hw
  | false =>
    have pr : ∀ {x : Evt}, primO (ev st gd) o = some x → EvG P C Q G o.dst its st x → o.wp P a w K Q' := fun hx hh => by
      obtain ⟨xs, h1, rfl⟩ := primO_ok hx
      exact prim_wp r hg h1 hh hit g hK
    unfold evt at he
    split at he
    · -- a call
      rename_i f args ats ho
      split at he
      case h_2 => cases he
      rename_i fn caps xs hf hxs
      cases he
      obtain ⟨hc, hcall⟩ := h hit
      have h1 := hρ _ _ hf
      simp only [TV.den, CV.den, Option.map_eq_some_iff] at h1
      obtain ⟨cs, hcs, h1⟩ := h1
      have h2 := mapO_den hρ hxs
      have h3 := hcall β w _ g (tvsDen_append h2 (caps_tvs hcs))
      have hrun : (execOp a.eval o).run P w = .ok (.enter fn (args.toList.map a.eval ++ cs).toArray) w := by
        have ea : args.map a.eval ++ cs.toArray = (args.toList.map a.eval ++ cs).toArray := by apply Array.toList_inj.1; simp
        simp only [execOp, ho, resolve, Sem.run_bind, ← h1, Deferred.ofValue, Sem.run_pure, Result.andThen_ok, invoke, Array.empty_append, ea, hc]
      simp only [Oper.wp, hrun, Oper.upon]
      refine h3.mono fun e w' he => ?_
      obtain ⟨v, av, st', G', l, bx', rfl, hv, hp, g', hi, hw⟩ := he
      exact hK l G' _ _ _ (put_bx r hp hv bx') g' hi hw
    · split at he
      · split at he
        · split at he
          · cases he; cases hv
          · cases he
        · cases he
      · cases he
    · split at he
      · cases he; cases hv
      · cases he
    · split at he
      · split at he
        · split at he
          · cases he; cases hv
          · cases he
        · exact pr he h
      · exact pr he h
    · -- a slice built
      rename_i t len parts ho
      simp only [Option.map_eq_some_iff] at he
      obtain ⟨cs, hcs, rfl⟩ := he
      exact row_wp hT r hg ho hcs h hit g hK
    · -- an append
      rename_i args ats ho
      split at he
      case h_2 => exact pr he h
      rename_i s x t t' ha hat
      split at he
      case h_2 => exact pr he h
      rename_i ti ti' A n c y hti hti' hs hx
      split at he
      case isFalse => exact pr he h
      rename_i hk
      split at he
      case h_2 => exact pr he h
      rename_i te hte
      split at he
      case isFalse => exact pr he h
      rename_i hz
      have ea : args = #[s, x] := Array.toList_inj.1 ha
      have et : ats = #[t, t'] := Array.toList_inj.1 hat
      split at he
      · split at he
        case isFalse => cases he
        rename_i ht
        subst ht; cases he
        exact app_wp hT r hg (by rw [ho, ea, et]) hti hk hte hz hs hx h hit g hK
      · split at he
        case isFalse => cases he
        rename_i hik
        cases he
        exact appz_wp hT r hg (by rw [ho, ea, et]) hti hk hte hz hti' hik hs hx h hit g hK
      · exact pr he h
    all_goals first | exact pr he h | cases he
end

theorem gdOf_ok {ops : Array Oper} {o : Oper} {st : St} {gd : Option (Nat × Bool)} {β : Bl} {a : Act} (r : Rel β st a) (h : gdOf ops o st = some gd) : GdOk gd a ∧ Region.wanted o (yielded ops a.tmps) = true := by
  unfold gdOf at h
  split at h
  · rename_i hgd
    cases h
    exact ⟨fun _ _ e => (by cases e), by simp [Region.wanted, hgd]⟩
  · rename_i j want hgd
    split at h
    case h_1 => cases h
    rename_i gt hgt
    split at h
    case h_2 => cases h
    rename_i b hl
    split at h
    case isFalse => cases h
    rename_i hbw
    subst hbw
    cases h
    have hb : a.tmps.getD gt undef = .bool b := (r.tm gt _ hl).2
    have hy : yielded ops a.tmps j = some b := by
      unfold yielded
      simp only [hgt, Option.bind_some, getD_bool hb]
    exact ⟨fun _ _ e => (by cases e; exact hb), by simp [Region.wanted, hgd, hy]⟩

theorem xoper_br {O : Ops} {T : Tb} {ops : Array Oper} {o : Oper} {st : St} {t : Tmp} {b : Bool} (h : xoper O T ops o st = .br t b) : st.t.lookup t = some (.t (.c (.v (.bool b)))) := by
  unfold xoper at h
  have nd : ∀ g, xdo O T st g o ≠ .br t b := fun g e => by
    unfold xdo at e
    repeat' (split at e)
    all_goals cases e
  split at h
  · exact absurd h (nd _)
  · split at h
    · cases h
    · rename_i gt hgt
      split at h
      · split at h
        · exact absurd h (nd _)
        · split at h <;> cases h
      · rename_i b' hl
        have : SR.br gt b' = .br t b := by
          revert h
          repeat' split
          all_goals (intro h; first | exact h | cases h)
        cases this
        exact hl
      · split at h <;> cases h
      · split at h
        · split at h
          · rename_i hl; cases h; exact hl
          · cases h
        · cases h
      · cases h

theorem noDr_leave {id : Nat} : ∀ {k k' : List It}, noDr k = true → leave id k = some k' → noDr k' = true
  | [], k', h, hl => by cases hl
  | x :: k, k', h, hl => by
    simp only [noDr, List.all_cons, Bool.and_eq_true] at h
    cases x with
    | blk i =>
      simp only [leave] at hl
      split at hl
      · cases hl; exact h.2
      · exact noDr_leave h.2 hl
    | _ => exact noDr_leave (k := k) h.2 hl

theorem bxSt {β : Bl} {st : St} {a : Act} (r : Rel β st a) (bx : List (List CV)) : Rel β { st with bx := bx } a := ⟨r.size, r.tm, r.gd, r.df, r.gu⟩

theorem xdoV_ok {P : Program} {T : Tb} (hT : TOk P T) {β : Bl} {st st1 : St} {a : Act} (r : Rel β st a) {w0 : World} (hbx : BxHold β st.bx w0) (hbl : β.length = st.bx.length) {gd : Option (Nat × Bool)} (hg : GdOk gd a) {o : Oper}
    (h : xdoV Ops.std T st gd o = some st1) : ∃ v, (∀ w, BxHold β st.bx w → (execOp a.eval o).run P w = .ok (.value v) w) ∧ Rel β st1 (a.put o.dst v) ∧ st1.bx = st.bx := by
  unfold xdoV at h
  split at h
  case h_2 => cases h
  rename_i av hres
  obtain ⟨v, hv, hrun⟩ := xstep_ok (P := P) hT r hbx hbl hg hres
  obtain ⟨r1, hb⟩ := r.put h hv
  exact ⟨v, hrun, r1, hb⟩

theorem xoperV_ok {P : Program} {T : Tb} (hT : TOk P T) {β : Bl} {st st1 : St} {a : Act} (r : Rel β st a) {w0 : World} (hbx : BxHold β st.bx w0) (hbl : β.length = st.bx.length) {ops : Array Oper} {i : Nat} {o : Oper} {J : Array Bool → World → Prop}
    (hJ : ∀ L w, Waits ops i L → J L w → BxHold β st.bx w) (h : xoperV Ops.std T ops o st = .ok st1) : ∃ v, YieldsJ P ops J i o v a ∧ Rel β st1 (a.put o.dst v) ∧ st1.bx = st.bx := by
  unfold xoperV at h
  split at h
  · rename_i hgd
    have hw : Region.wanted o (yielded ops a.tmps) = true := by simp [Region.wanted, hgd]
    split at h
    case h_2 => cases h
    rename_i st2 h2
    cases h
    obtain ⟨v, h3, h4, h5⟩ := xdoV_ok hT r hbx hbl (fun _ _ e => by cases e) h2
    exact ⟨v, .inl ⟨hw, fun L w hwt hj => h3 w (hJ L w hwt hj)⟩, h4, h5⟩
  · rename_i j want hgd
    split at h
    case h_1 => cases h
    rename_i gt hgt
    have hy : ∀ b, a.tmps.getD gt undef = .bool b → yielded ops a.tmps j = some b := fun b hb => by
      unfold yielded
      simp only [hgt, Option.bind_some, getD_bool hb]
    split at h
    · rename_i b hl
      have hb : a.tmps.getD gt undef = .bool b := (r.tm gt _ hl).2
      split at h
      · rename_i hbw
        subst hbw
        have hw : Region.wanted o (yielded ops a.tmps) = true := by simp [Region.wanted, hgd, hy b hb]
        split at h
        case h_2 => cases h
        rename_i st2 h2
        cases h
        obtain ⟨v, h3, h4, h5⟩ := xdoV_ok hT r hbx hbl (fun _ _ e => by cases e; exact hb) h2
        exact ⟨v, .inl ⟨hw, fun L w hwt hj => h3 w (hJ L w hwt hj)⟩, h4, h5⟩
      · rename_i hbw
        have hw : Region.wanted o (yielded ops a.tmps) = false := by simp [Region.wanted, hgd, hy b hb, hbw]
        split at h
        case h_2 => cases h
        rename_i st2 hp
        cases h
        obtain ⟨r1, hb2⟩ := r.put (v := undef) hp rfl
        exact ⟨undef, .inr ⟨hw, rfl⟩, r1, hb2⟩
    · rename_i b hl
      have hb : a.tmps.getD gt undef = .bool b := by
        have := (r.tm gt _ hl).2
        simp only [AV.is, TV.den, CV.den, Option.some.injEq] at this
        exact this.symm
      split at h
      case h_2 => cases h
      rename_i av d hst hdst
      split at h
      case h_2 => cases h
      rename_i x hx
      split at h
      case isFalse => cases h
      rename_i hc
      obtain ⟨hd, hnone, hdg, hall⟩ := hc
      cases h
      have hds : d < a.tmps.size := by rw [r.size]; exact hd
      have key : ∀ v, (b = want → x.den β = some v) → (b = !want → v = undef) → Rel β { st with g := (d, gt, want, x) :: st.g } (a.put (some d) v) := by
        intro v hv hu
        refine ⟨by simp [Act.put, r.size], fun e av' he => ?_, fun p hp hc => ?_, r.df, fun p hp hc => ?_⟩
        · obtain ⟨h1, h2⟩ := r.tm e av' he
          have hne : d ≠ e := fun e' => by subst e'; simp only at he; rw [he] at hnone; cases hnone
          exact ⟨h1, by simp only [Act.put]; rw [getD_set_ne' hne]; exact h2⟩
        · simp only [Act.put] at hc ⊢
          rcases List.mem_cons.1 hp with e | hp
          · subst e
            simp only at hc ⊢
            rw [getD_set_ne' hdg, hb] at hc
            rw [getD_set_self hds]
            exact hv (by simpa using hc)
          · have hgp := List.all_eq_true.1 hall p hp
            simp at hgp
            rw [getD_set_ne' (Ne.symm hgp.2)] at hc
            rw [getD_set_ne' (Ne.symm hgp.1)]
            exact r.gd p hp hc
        · simp only [Act.put] at hc ⊢
          rcases List.mem_cons.1 hp with e | hp
          · subst e
            simp only at hc ⊢
            rw [getD_set_ne' hdg, hb] at hc
            rw [getD_set_self hds]
            exact hu (by simpa using hc)
          · have hgp := List.all_eq_true.1 hall p hp
            simp at hgp
            rw [getD_set_ne' (Ne.symm hgp.2)] at hc
            rw [getD_set_ne' (Ne.symm hgp.1)]
            exact r.gu p hp hc
      by_cases hbw : b = want
      · subst hbw
        have hw : Region.wanted o (yielded ops a.tmps) = true := by simp [Region.wanted, hgd, hy b hb]
        obtain ⟨v, hv, hrun⟩ := xstep_ok (P := P) hT r hbx hbl (g := some (gt, b)) (fun _ _ e => by cases e; exact hb) hst
        exact ⟨v, .inl ⟨hw, fun L w hwt hj => hrun w (hJ L w hwt hj)⟩, by rw [hdst]; exact key v (fun _ => AV.tv_den hx hv) (fun e => by cases b <;> cases e), rfl⟩
      · have hw : Region.wanted o (yielded ops a.tmps) = false := by simp [Region.wanted, hgd, hy b hb, hbw]
        exact ⟨undef, .inr ⟨hw, rfl⟩, by rw [hdst]; exact key undef (fun e => absurd e hbw) (fun _ => rfl), rfl⟩
    · rename_i u hl
      have hb : a.tmps.getD gt undef = .tuple u := by
        have := (r.tm gt _ hl).2
        simp only [AV.is, TV.den, CV.den, Option.some.injEq] at this
        exact this.symm
      have hw : Region.wanted o (yielded ops a.tmps) = false := by simp [Region.wanted, hgd, yielded_tuple hgt hb]
      split at h
      case h_2 => cases h
      rename_i st2 hp
      cases h
      obtain ⟨r1, hb2⟩ := r.put (v := undef) hp rfl
      exact ⟨undef, .inr ⟨hw, rfl⟩, r1, hb2⟩
    · split at h
      · split at h <;> cases h
      · cases h
    · cases h

theorem xoperV_br {O : Ops} {T : Tb} {ops : Array Oper} {o : Oper} {st : St} {t : Tmp} {b : Bool} (h : xoperV O T ops o st = .br t b) : st.t.lookup t = some (.t (.c (.v (.bool b)))) := by
  unfold xoperV at h
  split at h
  · split at h <;> cases h
  · split at h
    · cases h
    · rename_i gt hgt
      split at h
      · split at h
        · split at h <;> cases h
        · split at h <;> cases h
      · rename_i b' hl
        have : SR.br gt b' = .br t b := by
          revert h
          repeat' split
          all_goals (intro h; first | exact h | cases h)
        cases this
        exact hl
      · split at h <;> cases h
      · split at h
        · split at h
          · rename_i hl; cases h; exact hl
          · cases h
        · cases h
      · cases h

/-- what 'pick' picks -/
theorem pick_ok {O : Ops} {T : Tb} {ops : Array Oper} {sn : List (List CV)} {sk : List (Nat × Nat)} {L : List Bool} {st : St} : ∀ {l : List (Oper × Nat)}, (∀ p ∈ l, ops[p.2]? = some p.1) →
    (∀ i st', pick O T ops sn sk L st l = .det i st' → ∃ o st1, ops[i]? = some o ∧ L.getD i true = false ∧ readyB o L = true ∧ sk.all (fun q => q.2 != i) = true ∧ xoperV O T ops o { st with bx := maskB sn sk ops i st.bx.length } = .ok st1 ∧ st' = { st1 with bx := st.bx }) ∧
    (∀ t b, pick O T ops sn sk L st l = .br t b → st.t.lookup t = some (.t (.c (.v (.bool b))))) ∧
    (∀ i o e, pick O T ops sn sk L st l = .val i o e → ops[i]? = some o ∧ L.getD i true = false ∧ readyB o L = true ∧ sk.all (fun q => q.2 != i) = true ∧ isVal e = true ∧ ∃ g, gdOf ops o st = some g ∧ evt T (ev st g) o = some e)
  | [], _ => ⟨fun i st' h => (by cases h), fun t b h => (by cases h), fun i o e h => (by cases h)⟩
  | (o, i) :: l, hm => by
    have ih := pick_ok (O := O) (T := T) (sn := sn) (sk := sk) (L := L) (st := st) (l := l) (fun p hp => hm p (List.mem_cons_of_mem _ hp))
    have ho := hm (o, i) List.mem_cons_self
    simp only at ho
    unfold pick
    split
    case isFalse => exact ih
    rename_i hc
    obtain ⟨c1, c2, c3⟩ := hc
    split
    · rename_i st1 hx
      exact ⟨fun j st' h => (by cases h; exact ⟨o, st1, ho, c1, c2, c3, hx, rfl⟩), fun t b h => (by cases h), fun j o' e h => (by cases h)⟩
    · rename_i t b hx
      exact ⟨fun j st' h => (by cases h), fun t' b' h => (by cases h; have := xoperV_br hx; exact this), fun j o' e h => (by cases h)⟩
    · split
      case h_2 => exact ih
      rename_i g hg
      split
      case h_2 => exact ih
      rename_i e he
      split
      case isFalse => exact ih
      rename_i hv
      exact ⟨fun j st' h => (by cases h), fun t' b' h => (by cases h), fun j o' e' h => (by cases h; exact ⟨ho, c1, c2, c3, hv, g, hg, he⟩)⟩

def PanicOk (Q : Exit → Act → World → Prop) : Prop := ∀ c d v a w, Q (.panic c) (Act.put a d v) w → Q (.panic c) a w

theorem Good.drew {G : Gh} {β : Bl} {bx : List (List CV)} {w : World} (g : Good G β bx w) : Good G β bx { w with drawn := w.drawn + 1 } :=
  ⟨g.os, g.tape, g.output, g.size, g.old, g.imm, g.le0, g.fresh, g.bl, g.bh, g.bxH, g.bxlt, g.inj, g.rows, g.rinj, g.zs⟩
theorem ready_nil {ops : Array Oper} {L : List Bool} (h : L.all id = true) : Region.ready .any ops L.toArray = [] := by
  rw [List.eq_nil_iff_forall_not_mem]
  intro j hj
  have := (mem_ready.1 hj).1
  rw [toArray_getD, List.getD_eq_getElem?_getD] at this
  cases hh : L[j]? with
  | none => rw [hh] at this; cases this
  | some b =>
    rw [hh] at this
    simp at this
    subst this
    have := List.all_eq_true.1 h _ (List.mem_of_getElem? hh)
    cases this
theorem count_nil {L : List Bool} (h : L.all id = true) : L.count false = 0 := by
  rw [List.count_eq_zero]
  intro hm
  have := List.all_eq_true.1 h _ hm
  cases this
theorem mem_zip {ops : Array Oper} : ∀ p ∈ ops.toList.zipIdx, ops[p.2]? = some p.1 := fun p hp => by
  have := List.mem_zipIdx_iff_getElem?.1 hp
  simpa using this
theorem xstep_st {O : Ops} {T : Tb} {st : St} {g : Option (Nat × Bool)} {o : Op} {k off : Nat} {cs : List CV} (h : xstep O T st g o = some (.st k off cs)) : ∃ t x y, o = .store t x y ∧ ev st g x = some (.c (.p k off)) := by
  have key : ∀ o, xop O T (ev st g) st.bx o = some (.st k off cs) → ∃ t x y, o = .store t x y ∧ ev st g x = some (.c (.p k off)) := by
    intro o h
    cases o with
    | store t x y =>
      simp only [xop] at h
      split at h
      case h_2 => cases h
      rename_i ti k' off' z hti hx hy
      split at h
      case h_2 => cases h
      split at h
      · cases h; exact ⟨t, x, y, rfl, hx⟩
      · cases h
    | call c =>
      exfalso
      obtain ⟨callee, args, ats⟩ := c
      cases callee with
      | builtin b =>
        simp only [xop] at h
        revert h
        repeat' split
        all_goals (intro h; first | (cases h; done) | (simp only [Option.map_eq_some_iff] at h; obtain ⟨_, _, h⟩ := h; cases h))
      | value f => exact nomatch (show (none : Option XR) = some _ from h)
      | invoke f m => exact nomatch (show (none : Option XR) = some _ from h)
    | makeFunc fn x y =>
      exfalso
      cases fn <;> simp only [xop] at h
      case func => split at h; simp only [Option.map_eq_some_iff] at h; obtain ⟨_, _, h⟩ := h; cases h; cases h
      all_goals cases h
    | _ =>
      exfalso
      simp only [xop] at h
      revert h
      repeat' split
      all_goals (intro h; first | (cases h; done) | (simp only [Option.map_eq_some_iff] at h; obtain ⟨_, _, h⟩ := h; cases h))
  unfold xstep at h
  split at h
  · simp only [Option.map_eq_some_iff] at h; obtain ⟨_, _, h⟩ := h; cases h
  · simp only [Option.map_eq_some_iff] at h; obtain ⟨_, _, h⟩ := h; cases h
  · split at h
    · simp only [Option.map_eq_some_iff] at h; obtain ⟨_, _, h⟩ := h; cases h
    · cases h
  · split at h
    · simp only [Option.map_eq_some_iff] at h; obtain ⟨_, _, h⟩ := h; cases h
    · simp only [Option.map_eq_some_iff] at h; obtain ⟨_, _, h⟩ := h; cases h
    · unfold xpick at h
      revert h
      repeat' split
      all_goals (intro h; cases h)
    · cases h
  · exact key _ h

/-- what a step does to the boxes, where a region draws -/
theorem xdo_sn {O : Ops} {T : Tb} {st st' : St} {g : Option (Nat × Bool)} {o : Oper} {i : Nat} {sn : List (List CV)} {sk : List (Nat × Nat)} {L : List Bool} (h : xdo O T st g o = .ok st') (hf : storeFine sn sk st g i o = true)
    (hs : SnOk sn sk L st.bx) (hl : sn.length ≤ st.bx.length) (hL : L.getD i true = false) (hi : i < L.length) : SnOk sn sk (L.set i true) st'.bx ∧ sn.length ≤ st'.bx.length := by
  have h1 := snOk_set hs hL
  unfold xdo at h
  split at h
  case h_2 => cases h
  rename_i res hres
  split at h
  case h_2 => cases h
  rename_i st1 happ
  cases h
  cases res with
  | val av => have := put_same_bx happ; rw [this]; exact ⟨h1, hl⟩
  | box cs =>
    have := put_same_bx happ
    simp only at this
    rw [this]
    refine ⟨fun k c hk hh => ?_, by simp; omega⟩
    have h2 := h1 k c hk hh
    rw [List.getElem?_append_left (List.getElem?_eq_some_iff.1 h2).1]; exact h2
  | row cs n => cases happ
  | st k off cs =>
    obtain ⟨t, x, y, ho, hx⟩ := xstep_st hres
    simp only [St.app] at happ
    split at happ
    case h_2 => cases happ
    rename_i old _ hold
    cases happ
    unfold storeFine at hf
    rw [ho] at hf
    simp only [hx, Bool.or_eq_true, decide_eq_true_eq, List.any_eq_true, Bool.and_eq_true, beq_iff_eq] at hf
    refine ⟨fun k' c hk hh => ?_, by simpa using hl⟩
    have hkl : k' < sn.length := (List.getElem?_eq_some_iff.1 hk).1
    have hne : k ≠ k' := by
      intro e
      subst e
      rcases hf with hf | ⟨q, hq, hq1, hq2⟩
      · omega
      · have := hh i (by rw [← hq1, ← hq2]; exact hq)
        rw [List.getD_eq_getElem?_getD, List.getElem?_set_self hi] at this
        cases this
    show (st.bx.set k (spl old off cs))[k']? = some c
    rw [List.getElem?_set_ne hne]
    exact h1 k' c hk hh

section
variable {P : Program} {E : Env} (hT : TOk P E.T) (hO : Ops.std = E.O) (hm : P.follows .mixedOrders = true) (hD : drOk E.C E.dp = true) {Q : Exit → Act → World → Prop} (hQ : PanicOk Q) {G : Gh} (hH : Hp.le E.H G.H)
include hT hO hm hD hQ hH
theorem run_sound : ∀ (f : Nat) (its : List It) (st : St), (run E f its st).ok P E Q G → WP P E.C Q G its st
  | 0, its, st, h => h
  | f + 1, its, st, h => by
    intro hit β a w r g hd
    have IH := run_sound f
    unfold run at h
    split at h
    · exact h β a w r g
    · rename_i id k
      have hk : noDr k = true := hit.1
      have := IH _ _ h (ItOk.of hk) β a w r g (DrHyp.of hk)
      rw [itsD_of hk] at this
      exact its_blk this
    · rename_i p i k
      have hk : noDr k = true := hit.1
      have := IH _ _ h (ItOk.of hk) β a w ⟨r.size, r.tm, (fun q hq => absurd hq (by simp)), r.df, (fun q hq => absurd hq (by simp))⟩ g (DrHyp.of hk)
      rw [itsD_of hk] at this
      show itsWp P E.C Q (.ops p i 0 :: k) a w
      simp only [itsWp, both, List.range'_zero]
      split
      · exact this
      · exact this
    · rename_i p i n k
      have hk : noDr k = true := hit.1
      have hk' : noDr (.ops p (i + 1) n :: k) = true := by simpa [noDr, It.isDr] using hk
      split at h
      case h_2 => exact h hit β a w r g hd
      rename_i ops d hreg
      split at h
      case h_2 => exact h hit β a w r g hd
      rename_i o ho
      have goal : wpOp P ops (Xk P E.C Q k) i (fun a w => itsWp P E.C Q (.ops p (i + 1) n :: k) a w) a w → itsWp P E.C Q (.ops p i (n + 1) :: k) a w := fun h1 => by
        simp only [itsWp, both, hreg, List.range'_succ, wpOps_cons] at h1 ⊢
        exact h1
      split at h
      · rename_i st' hx
        rw [← hO] at hx
        exact goal (xoper_ok hT r g ho hx (fun l a' w' r' g' => IH _ _ h (ItOk.of hk') _ _ _ r' g' (DrHyp.of hk')))
      · rename_i t b hx
        obtain ⟨h1, h2⟩ := h
        have hl := xoper_br hx
        cases b with
        | true => exact IH _ _ (h1 rfl) hit β a w (r.know hl) g hd
        | false => exact IH _ _ (h2 rfl) hit β a w (r.know hl) g hd
      · split at h
        case h_2 => exact h hit β a w r g hd
        rename_i gd hgd
        split at h
        case h_2 => exact h hit β a w r g hd
        rename_i e he
        obtain ⟨h1, h2⟩ := gdOf_ok r hgd
        refine goal ?_
        unfold wpOp
        simp only [ho, h2, if_true]
        exact .inl (evt_wp hT r g h1 he h (ItOk.of hk') (Hp.le_refl' _) (fun l G' st' a' w' r' g' hi hw => hw hi _ _ _ r' g' (DrHyp.of hk')))
    · rename_i p sn sk H L k
      obtain ⟨hk, hsn, hlen, hleH, ops, d, hreg, hstat, hcl, hLs⟩ := hit
      have hk : noDr k = true := hk
      simp only [hreg] at h
      have hQ' : ∀ c (a : Act) (dst : Option Tmp) (v : Value) (w : World), Xk P E.C Q k (.panic c) (a.put dst v) w → Xk P E.C Q k (.panic c) a w := fun c a dst v w hq => hQ c dst v a w hq
      have ready_i : ∀ {L' : List Bool} {i : Nat} {o : Oper}, ops[i]? = some o → i < ops.size := fun h => (Array.getElem?_eq_some_iff.1 h).1
      have it' : ∀ {i : Nat} {o : Oper}, ops[i]? = some o → L.getD i true = false → readyB o L = true → ItOk E.C G.H (.dr p sn sk H (L.set i true) :: k) st.bx := fun ho hL hr =>
        ⟨hk, snOk_set hsn hL, hlen, hleH, ops, d, hreg, hstat, closed_set ho hr hcl, by simpa using hLs⟩
      have jd0 : Jd (β.take sn.length) sn sk H L.toArray w := jd_of hsn g.bh (fun b o v hh => g.imm b o v (hleH b o v hh)) hd
      show (match regAt E.C p with | some (ops, _) => wpAnyJ P ops (Xk P E.C Q k) (Jd (β.take sn.length) sn sk H) (L.count false) L.toArray a w | none => False)
      simp only [hreg]
      -- an operation that is taken first
      have take : ∀ {i : Nat} {o : Oper} {v : Value}, ops[i]? = some o → L.getD i true = false → readyB o L = true → sk.all (fun q => q.2 != i) = true → YieldsJ P ops (Jd (β.take sn.length) sn sk H) i o v a →
          wpAnyJ P ops (Xk P E.C Q k) (Jd (β.take sn.length) sn sk H) ((L.set i true).count false) (L.set i true).toArray (a.put o.dst v) w → wpAnyJ P ops (Xk P E.C Q k) (Jd (β.take sn.length) sn sk H) (L.count false) L.toArray a w := by
        intro i o v ho hL hr hsk hy hw
        rw [count_set hL]
        refine wpAnyJ_first ho (Region.noSelect_spec (by unfold staticB at hstat; simp only [Bool.and_eq_true] at hstat; exact hstat.1)) (fun c a w => hQ' c a o.dst v w) ?_ ?_ _ _ _ _ (free_of ho hr hstat) (ready_mem ho hL hr) (waits_of hL hcl) hy jd0 (by simpa using hw)
        · intro L' w' j _ hne hj
          rw [Array.setIfInBounds_comm _ _ (Ne.symm hne)] at hj
          exact (jd_indep hsk).1 hj
        · intro L' w' _ hj
          exact (jd_indep hsk).2 hj
      split at h
      · -- all have come up
        rename_i hall
        have := IH _ _ h (ItOk.of hk) β a w ⟨r.size, r.tm, (fun q hq => absurd hq (by simp)), r.df, (fun q hq => absurd hq (by simp))⟩ g (DrHyp.of hk)
        rw [itsD_of hk] at this
        rw [count_nil hall]
        exact ⟨ready_nil hall, this⟩
      · obtain ⟨p1, p2, p3⟩ := pick_ok (O := E.O) (T := E.T) (ops := ops) (sn := sn) (sk := sk) (L := L) (st := st) (mem_zip (ops := ops))
        split at h
        · rename_i i st' hp
          obtain ⟨o, st1, ho, hL, hr, hsk, hx, rfl⟩ := p1 i st' hp
          rw [← hO] at hx
          have hml : (maskB sn sk ops i st.bx.length).length = st.bx.length := by simp [maskB]; omega
          obtain ⟨v, hy, r1, hb⟩ := xoperV_ok (P := P) (i := i) (J := Jd (β.take sn.length) sn sk H) hT (bxSt r (maskB sn sk ops i st.bx.length)) (jd_mask (waits_of hL hcl) jd0) (by simp only [hml]; exact g.bl)
            (fun L' w' hw hj => jd_mask hw hj) hx
          refine take ho hL hr hsk hy ?_
          have := IH _ _ h (it' ho hL hr) β _ w (bxSt r1 st.bx) g hd
          simpa only [itsD, hreg] using this
        · rename_i t b hp
          obtain ⟨h1, h2⟩ := h
          have hl := p2 t b hp
          have hit : ItOk E.C G.H (.dr p sn sk H L :: k) st.bx := ⟨hk, hsn, hlen, hleH, ops, d, hreg, hstat, hcl, hLs⟩
          cases b with
          | true => have := IH _ _ (h1 rfl) hit β a w (r.know hl) g hd; simpa only [itsD, hreg] using this
          | false => have := IH _ _ (h2 rfl) hit β a w (r.know hl) g hd; simpa only [itsD, hreg] using this
        · rename_i i o e hp
          obtain ⟨ho, hL, hr, hsk, hv, gd, hgd, he⟩ := p3 i o e hp
          obtain ⟨hg1, hg2⟩ := gdOf_ok r hgd
          obtain ⟨v, av, st', hrun, ha, hput, hw⟩ := evt_val hT r hg1 hv he h
          refine take ho hL hr hsk (.inl ⟨hg2, fun L' w' _ hj => hrun w' hj.1⟩) ?_
          obtain ⟨r1, hb⟩ := r.put hput ha
          have := hw (by rw [hb]; exact it' ho hL hr) β _ w r1 (by rw [hb]; exact g) hd
          simpa only [itsD, hreg] using this
        · split at h
          case h_2 =>
            have hit : ItOk E.C G.H (.dr p sn sk H L :: k) st.bx := ⟨hk, hsn, hlen, hleH, ops, d, hreg, hstat, hcl, hLs⟩
            have := h hit β a w r g hd
            simpa only [itsD, hreg] using this
          rename_i q0 qs hrl
          have hstop : WP P E.C Q G (.dr p sn sk H L :: k) st → wpAnyJ P ops (Xk P E.C Q k) (Jd (β.take sn.length) sn sk H) (L.count false) L.toArray a w := fun hh => by
            have hit : ItOk E.C G.H (.dr p sn sk H L :: k) st.bx := ⟨hk, hsn, hlen, hleH, ops, d, hreg, hstat, hcl, hLs⟩
            have := hh hit β a w r g hd
            simpa only [itsD, hreg] using this
          have hin : ∀ {o : Oper} {i : Nat}, (o, i) ∈ readyL ops L → ops[i]? = some o ∧ L.getD i true = false ∧ readyB o L = true := fun {o i} hmem => by
            unfold readyL at hmem
            rw [List.mem_filter] at hmem
            exact ⟨mem_zip _ hmem.1, by have := hmem.2; simp at this; simpa [List.getD_eq_getElem?_getD] using this.1, by have := hmem.2; simp at this; exact this.2⟩
          have hall : ∀ j ∈ Region.ready .any ops L.toArray, ∃ oj, (oj, j) ∈ readyL ops L := by
            intro j hj
            obtain ⟨h1, oj, h2, h3⟩ := mem_ready.1 hj
            refine ⟨oj, ?_⟩
            unfold readyL
            rw [List.mem_filter]
            refine ⟨List.mem_zipIdx_iff_getElem?.2 (by simpa using h2), ?_⟩
            rw [toArray_getD] at h1
            simp only [h1, Bool.not_false, Bool.true_and]
            unfold readyB
            refine Array.all_eq_true_iff_forall_mem.2 fun e he => ?_
            cases hb : Region.binds .any e with
            | false => rfl
            | true => have := h3 e he hb; rw [toArray_getD] at this; rw [this]; rfl
          have hok := altL_ok h
          rw [← hrl] at hok
          apply Classical.byContradiction
          intro hno
          -- each of them
          have each : ∀ o i, (o, i) ∈ readyL ops L → wpOp P ops (Xk P E.C Q k) i (fun a' w' => Jd (β.take sn.length) sn sk H (L.set i true).toArray w' ∧ wpAnyJ P ops (Xk P E.C Q k) (Jd (β.take sn.length) sn sk H) ((L.set i true).count false) (L.set i true).toArray a' w') a w := by
            intro o i hmem
            obtain ⟨ho, hL, hr⟩ := hin hmem
            have h := hok _ hmem
            have hil : i < L.length := by rw [hLs]; exact (Array.getElem?_eq_some_iff.1 ho).1
            have fin : ∀ (l : Bl) (G' : Gh) (st' : St) (a' : Act) (w' : World), Rel (β ++ l) st' a' → Good G' (β ++ l) st'.bx w' → ItOk E.C G'.H (.dr p sn sk H (L.set i true) :: k) st'.bx → WP P E.C Q G' (.dr p sn sk H (L.set i true) :: k) st' →
                Jd (β.take sn.length) sn sk H (L.set i true).toArray w' ∧ wpAnyJ P ops (Xk P E.C Q k) (Jd (β.take sn.length) sn sk H) ((L.set i true).count false) (L.set i true).toArray a' w' := by
              intro l G' st' a' w' r' g' hi' hw'
              have hbl : sn.length ≤ β.length := by rw [g.bl]; exact hlen
              have htk : (β ++ l).take sn.length = β.take sn.length := List.take_append_of_le_length hbl
              have hd' : DrHyp (β ++ l) (.dr p sn sk H (L.set i true) :: k) := by
                intro k' i' cs c e1 e2
                rw [htk]
                exact hd k' i' cs c e1 e2
              have h2 := hw' hi' _ _ _ r' g' hd'
              simp only [itsD, hreg, htk] at h2
              obtain ⟨_, hs', hl', hle', _⟩ := hi'
              have h3 := jd_of hs' g'.bh (fun b o v hh => g'.imm b o v (hle' b o v hh)) (β := β ++ l) (fun k' i' cs c e1 e2 => hd' k' i' cs c e1 e2)
              rw [htk] at h3
              exact ⟨h3, h2⟩
            unfold oneDr at h
            simp only at h
            split at h
            case h_2 => exact absurd (hstop h) hno
            rename_i gd hgd
            obtain ⟨hg1, hg2⟩ := gdOf_ok r hgd
            split at h
            · rename_i st' hx
              split at h
              case isFalse => exact absurd (hstop h) hno
              rename_i hsf
              have hsn' := xdo_sn hx hsf hsn hlen hL hil
              rw [← hO] at hx
              unfold wpOp
              simp only [ho, hg2, if_true]
              exact .inl (xdo_ok hT r g hg1 hx fun l a' w' r' g' => fin l G st' a' w' r' g' ⟨hk, hsn'.1, hsn'.2, hleH, ops, d, hreg, hstat, closed_set ho hr hcl, by simpa using hLs⟩ (IH _ _ h))
            · split at h
              case h_2 => exact absurd (hstop h) hno
              rename_i e he
              unfold wpOp
              simp only [ho, hg2, if_true]
              exact .inl (evt_wp hT r g hg1 he h (it' ho hL hr) hleH (fun l G' st' a' w' r' g' hi hw => fin l G' st' a' w' r' g' hi hw))
          apply hno
          obtain ⟨o0, i0⟩ := q0
          have hm0 : (o0, i0) ∈ readyL ops L := by rw [hrl]; exact List.mem_cons_self
          obtain ⟨ho0, hL0, hr0⟩ := hin hm0
          rw [count_set hL0]
          refine ⟨fun h0 => ?_, fun j hj => ?_⟩
          · have := ready_mem ho0 hL0 hr0
            rw [h0] at this; cases this
          · obtain ⟨oj, hmj⟩ := hall j hj
            have hcnt : (L.set j true).count false = (L.set i0 true).count false := by
              have e1 := count_set hL0
              have e2 := count_set (hin hmj).2.1
              omega
            have := each oj j hmj
            rw [hcnt] at this
            simpa using this
    · rename_i p k
      have hk : noDr k = true := hit.1
      have ic : ∀ q, noDr (.code q :: k) = true := fun q => by simpa [noDr, It.isDr] using hk
      have i1 : ∀ (its : List It) (st' : St), noDr its = true → (run E f its st').ok P E Q G → Rel β st' a → st'.bx = st.bx → itsWp P E.C Q its a w := fun its st' hn hh r' hb => by
        have := IH _ _ hh (ItOk.of hn) β a w r' (by rw [hb]; exact g) (DrHyp.of hn)
        rwa [itsD_of hn] at this
      split at h
      · rename_i hs; exact its_skip hs (i1 _ _ hk h r rfl)
      · rename_i hs; exact its_seq hs (i1 _ _ (by simpa [noDr, It.isDr] using hk) h r rfl)
      · rename_i c x y hs
        obtain ⟨c1, c2⟩ := condB_eval r (g := c)
        split at h
        · rename_i b hb; exact its_cond hs (c1 b hb) (i1 _ _ (ic _) h r rfl)
        · rename_i t b hb
          obtain ⟨e1, e2⟩ := c2 t b hb
          obtain ⟨h1, h2⟩ := h
          cases b with
          | true => exact its_cond hs e1 (i1 _ _ (ic _) (h1 rfl) (r.know e2) rfl)
          | false => exact its_cond hs e1 (i1 _ _ (ic _) (h2 rfl) (r.know e2) rfl)
        · exact h hit β a w r g hd
      · rename_i hs; exact its_block hs (i1 _ _ (by simpa [noDr, It.isDr] using hk) h r rfl)
      · rename_i id b hs
        split at h
        · rename_i k' hl; exact its_exit hs hl (i1 _ _ (noDr_leave hk hl) h r rfl)
        · rename_i hl
          refine its_code hs (wp_exit ?_)
          exact exWp_none hl (h β a w r g)
      · rename_i hs; exact its_region hs (i1 _ _ (by simpa [noDr, It.isDr] using hk) h r rfl)
      · rename_i id ops hs
        split at h
        case isFalse => exact h hit β a w r g hd
        rename_i hp
        have hreg : regAt E.C p = some (ops, true) := by simp only [regAt, hs]
        have hstat : staticB ops = true := by
          unfold drOk at hD
          have := List.all_eq_true.1 hD p (by simpa using hp)
          simpa only [hreg] using this
        have hg : ∀ j, (List.replicate ops.size false).getD j true = true → ops.size ≤ j := fun j hj => by
          rcases Nat.lt_or_ge j ops.size with h1 | h1
          · rw [List.getD_eq_getElem?_getD, List.getElem?_replicate, if_pos h1] at hj; cases hj
          · exact h1
        have htk : β.take st.bx.length = β := by rw [← g.bl]; exact List.take_length
        have := IH _ _ h ⟨hk, fun k' cs hk' _ => hk', Nat.le_refl _, hH, ops, true, hreg, hstat, fun j oj hj hl => absurd (Array.getElem?_eq_some_iff.1 hj).1 (by have := hg j hl; omega), by simp⟩ β a { w with drawn := w.drawn + 1 }
          ⟨r.size, r.tm, (fun q hq => absurd hq (by simp)), r.df, (fun q hq => absurd hq (by simp))⟩ g.drew (by
            intro k' i' cs c e1 e2
            have hkl : k' < β.length := by rw [g.bl]; exact (List.getElem?_eq_some_iff.1 e1).1
            obtain ⟨x, hx, _⟩ := g.bh k' cs β[k'] e1 (List.getElem?_eq_getElem hkl) i' c e2
            rw [htk]
            exact ⟨x, hx⟩)
        simp only [itsD, hreg] at this
        refine its_code hs (wp_region_J (J := Jd (β.take st.bx.length) st.bx (skOf st ops.toList) E.H) hm ?_)
        have hc : (List.replicate ops.size false).count false = ops.size := by simp
        rw [hc] at this
        simpa using this
      · rename_i hs; exact its_ret hs (h rfl β a w r g)
      · rename_i c hs
        obtain ⟨c', hc', hh⟩ := h β a w r g
        simp only [sub, hs, child, Option.some.injEq] at hc'
        subst hc'
        exact its_code hs hh
      · exact h hit β a w r g hd
      · exact h hit β a w r g hd
end
end Go.Sx
