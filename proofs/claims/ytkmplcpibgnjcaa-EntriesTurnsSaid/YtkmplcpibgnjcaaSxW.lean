/- A symbolic executor over the model's wp: contracts of functions that are handed no row and hand back rows of their own; rows that are written over, rows that are written no more. -/
import Derived.Test.YtkmplcpibgnjcaaSxK
namespace Go.Sx
open Go.RowKit

/-! ### Contracts -/
def PCRpost (w : World) (H : Hp) (R : Hp → List ORow → Value → Prop) (e : Ending) (w' : World) : Prop := ∃ v H' Ro, e = .returned v ∧ Below w.heap.size w w' ∧ Hp.le H H' ∧ Agree H' w' ∧
    (∀ b o, H b o = none → H' b o ≠ none → w.heap.size ≤ b) ∧ OwnOk H' Ro w' ∧ (∀ r ∈ Ro, w.heap.size ≤ r.b) ∧ R H' Ro v
def PCR (P : Program) (f : FuncId) (args : List Value) (H : Hp) (R : Hp → List ORow → Value → Prop) : Prop := ∀ w, Agree H w → Calls P f args.toArray w (PCRpost w H R)
theorem PCR.pc {P : Program} {f : FuncId} {args : List Value} {H : Hp} {R : Hp → List ORow → Value → Prop} (h : PCR P f args H R) : PC P f args H fun H' v => ∃ Ro, R H' Ro v :=
  fun w hw => (h w hw).mono fun _ _ ⟨v, H', Ro, h1, h2, h3, h4, h5, _, _, h6⟩ => ⟨v, H', h1, h2, h3, h4, h5, Ro, h6⟩
theorem PCR.mono {P : Program} {f : FuncId} {args : List Value} {H : Hp} {R R' : Hp → List ORow → Value → Prop} (h : PCR P f args H R) (hr : ∀ H' Ro v, Hp.le H H' → R H' Ro v → R' H' Ro v) : PCR P f args H R' :=
  fun w hw => (h w hw).mono fun _ _ ⟨v, H', Ro, h1, h2, h3, h4, h5, h7, h8, h6⟩ => ⟨v, H', Ro, h1, h2, h3, h4, h5, h7, h8, hr _ _ _ h3 h6⟩

theorem good_ret {G : Gh} {β : Bl} {bx : List (List CV)} {w w' : World} {H' : Hp} {Ro : List ORow} (g : Good G β bx w) (hb : Below w.heap.size w w') (hle : Hp.le G.H H') (hag : Agree H' w')
    (hf : ∀ b o, G.H b o = none → H' b o ≠ none → w.heap.size ≤ b) (ho : OwnOk H' Ro w') (hro : ∀ r ∈ Ro, w.heap.size ≤ r.b) : Good { G with H := H', R := Ro ++ G.R } β bx w' := by
  have g1 := good_call g hb hle hag hf
  refine ⟨g1.os, g1.tape, g1.output, g1.size, g1.old, g1.imm, g1.le0, g1.fresh, g1.bl, g1.bh, g1.bxH, g1.bxlt, g1.inj, fun r hr => ?_, ?_, fun q hq => ?_⟩
  · rcases List.mem_append.1 hr with hr | hr
    · obtain ⟨h1, h2, h3, h4, h5⟩ := ho.1 r hr
      have := hro r hr
      exact ⟨.inl (Nat.le_trans g.size this), h1, h2, fun q hq => by have := (g.bxlt q hq).1; omega, h3, h4, h5⟩
    · exact g1.rows r hr
  · rw [List.map_append]
    refine List.nodup_append.2 ⟨ho.2, g.rinj, fun x hx y hy => ?_⟩
    obtain ⟨r, hr, rfl⟩ := List.mem_map.1 hx
    obtain ⟨q, hq, rfl⟩ := List.mem_map.1 hy
    have := hro r hr
    have := (g.rows q hq).2.1
    omega
  · obtain ⟨r, hr, e⟩ := g1.zs q hq
    exact ⟨r, List.mem_append_right _ hr, e⟩
def Gh.setr (G : Gh) (H : Hp) (Ro : List ORow) : Gh := { G with H := H, R := Ro ++ G.R }
theorem EvG.pcr {P : Program} {C : Code} {Q : Exit → Act → World → Prop} {G : Gh} {d : Option Nat} {its : List It} {st : St} {f : FuncId} {args : List TV} {vs : List Value} {R : Hp → List ORow → Value → Prop}
    (hc : ∀ as w, (callFunc f as).run P w = .ok (.enter f as) w) (hcl : ∀ β, tvsDen β args = some vs) (hpc : PCR P f vs G.H R)
    (h : ∀ H' Ro v, Hp.le G.H H' → R H' Ro v → (∀ r ∈ Ro, ∀ o, G.H r.b o = none) → ∃ av st', (∀ β, av.is β v) ∧ st.put d av = some st' ∧ WP P C Q (G.setr H' Ro) its st') : EvG P C Q G d its st (.call f args) := by
  intro hit
  refine ⟨hc, fun β w vs' g hvs => ?_⟩
  rw [hcl β] at hvs; cases hvs
  refine (hpc w g.imm).mono fun e w' ⟨v, H', Ro, h1, h2, h3, h4, h5, h7, h8, h6⟩ => ?_
  obtain ⟨av, st', ha, hp, hw⟩ := h H' Ro v h3 h6 fun r hr o => by
    cases hh : G.H r.b o with
    | none => rfl
    | some u => have := g.lt hh; have := h8 r hr; omega
  have e := put_same_bx hp
  exact ⟨v, av, st', G.setr H' Ro, [], st'.bx, h1, ha _, hp, (by rw [List.append_nil, e]; exact good_ret g h2 h3 h4 h5 h7 h8), (by rw [e]; exact hit.le h3), hw⟩
theorem PCR.enter {P : Program} {f : FuncId} {fn : Func} {C : Code} {args : List Value} {H : Hp} {R : Hp → List ORow → Value → Prop} (tvs : List TV) (hf : P.funcs[f]? = some fn) (hb : fn.body = some C)
    (hcl : tvsDen [] tvs = some args) (n : Nat) (hn : fn.ntmps = n) (hl : args.length ≤ n) (h : ∀ w, Agree H w → WP P C (bodyPost P fn (PCRpost w H R)) (Gh.start w H) [.code []] (St.start n tvs)) : PCR P f args H R := by
  intro w hw
  refine calls_of_wp hf hb ?_
  have h1 := h w hw (ItOk.of rfl) [] _ w (rel_start hcl hl) (good_start hw) trivial
  obtain ⟨c, hc, h2⟩ := h1
  simp only [sub, Option.some.injEq] at hc
  subst hc
  rw [hn]
  refine wp_mono h2 fun e a w q => ?_
  cases e <;> exact q
theorem RetG.pcr {P : Program} {T : Tb} (hT : TOk P T) {fn : Func} {rs : List ResultVar} {G : Gh} {st : St} {w : World} {H : Hp} {Ro : List ORow} {R : Hp → List ORow → Value → Prop} {tvs : List TV} {vs : List Value} (hrs : fn.results.toList = rs)
    (hw : G.w0 = w) (hM : G.M = fun _ => False) (hH : G.H0 = H) (hR : Ro.Sublist G.R) (hcl : ∀ β, tvsDen β tvs = some vs) (h : R G.H Ro (tupV vs)) : RetG T rs (bodyPost P fn (PCRpost w H R)) G (some tvs) st := by
  subst hw hH hrs
  intro hx β a w r g
  obtain ⟨vs', h1, h2⟩ := xres_ok hT r g.bh g.bl hx
  rw [hcl β] at h1; cases h1
  have hrow : ∀ r ∈ Ro, r ∈ G.R := fun r hr => hR.subset hr
  refine ⟨r.df, tupV vs, ?_, tupV vs, G.H, Ro, rfl, ⟨g.os, g.tape, g.output, g.size, fun k hk => g.old k hk (by rw [hM]; exact id)⟩, g.le0, g.imm, fun b o h1 h2 => (g.fresh b o h1 h2).resolve_right (by rw [hM]; exact id),
    ⟨fun r hr => ?_, g.rinj.sublist (hR.map _)⟩, fun r hr => (g.rows r (hrow r hr)).1.resolve_right (by rw [hM]; exact id), h⟩
  · have h3 : (fn.results.mapM (resF a.tmps)).run P w = .ok vs.toArray w := by
      revert h2
      generalize fn.results = l
      obtain ⟨l⟩ := l
      intro h2
      rw [List.mapM_toArray, Sem.run_map, h2]
      rfl
    rw [results_eq, Sem.run_bind, h3]
    rfl
  · obtain ⟨r1, r2, r3, r4, r6, r7, cs, r5, r8⟩ := g.rows r (hrow r hr)
    exact ⟨r2, r3, r6, r7, cs, r5, r8⟩
/-- of a slice that is handed back: its row, if it has room for anything -/
def OwnR (Ro : List ORow) (A : Option Addr) (n c k : Nat) (e : TypeId) : Prop := (n = 0 ∧ c = 0 ∧ Ro = []) ∨ ∃ b, A = some ⟨b, 0, none⟩ ∧ Ro = [⟨b, n, c, k, e⟩]

/-! ### What is known is turned -/
theorem WP.ghost {P : Program} {C : Code} {Q : Exit → Act → World → Prop} {G G' : Gh} {its : List It} {st : St} (hn : noDr its = true) (hg : ∀ β w, Good G β st.bx w → Good G' β st.bx w) (h : WP P C Q G' its st) : WP P C Q G its st :=
  fun _ β a w r g hd => h (ItOk.of hn) β a w r (hg β w g) hd
theorem Good.noZ {G : Gh} {β : Bl} {bx : List (List CV)} {w : World} (g : Good G β bx w) : Good { G with Z := [] } β bx w :=
  ⟨g.os, g.tape, g.output, g.size, g.old, g.imm, g.le0, g.fresh, g.bl, g.bh, g.bxH, g.bxlt, g.inj, g.rows, g.rinj, fun q hq => by cases hq⟩
theorem WP.dropR {P : Program} {C : Code} {Q : Exit → Act → World → Prop} {G : Gh} {its : List It} {st : St} {R' : List ORow} (hn : noDr its = true) (hR : R'.Sublist G.R) (h : WP P C Q { G with R := R', Z := [] } its st) : WP P C Q G its st :=
  WP.ghost hn (fun _ _ g => (g.noZ).dropR hR (fun q hq => by cases hq)) h
def Hp.drop (H : Hp) (b : Nat) : Hp := fun b' o => if b' = b then none else H b' o
theorem Hp.drop_ne {H : Hp} {b b' o : Nat} (h : b' ≠ b) : H.drop b b' o = H b' o := by unfold Hp.drop; rw [if_neg h]
theorem Hp.drop_le {H : Hp} {b : Nat} : Hp.le (H.drop b) H := fun b' o v h => by
  unfold Hp.drop at h
  split at h
  · cases h
  · exact h
/-- a row's elements may be written over again -/
theorem good_thaw {G : Gh} {β : Bl} {bx : List (List CV)} {w : World} (g : Good G β bx w) {r : ORow} (hr : r ∈ G.R) (h0 : ∀ o, G.H0 r.b o = none) :
    Good { G with H := G.H.drop r.b, R := { r with n := 0 } :: G.R.filter (fun x => x.b != r.b), Z := [] } β bx w := by
  obtain ⟨r1, r2, r3, r4, r6, r7, r5⟩ := g.rows r hr
  refine ⟨g.os, g.tape, g.output, g.size, g.old, fun b o v h => g.imm b o v (Hp.drop_le _ _ _ h), fun b o v h => ?_, fun b o h1 h2 => ?_, g.bl, g.bh, fun q hq o => ?_, g.bxlt, g.inj, fun x hx => ?_, ?_, fun q hq => by cases hq⟩
  · have hne : b ≠ r.b := fun e => by subst e; rw [h0 o] at h; cases h
    show G.H.drop r.b b o = some v
    rw [Hp.drop_ne hne]
    exact g.le0 b o v h
  · refine g.fresh b o h1 fun e => h2 ?_
    show G.H.drop r.b b o = none
    unfold Hp.drop
    split <;> first | rfl | exact e
  · show G.H.drop r.b q.1 o = none
    rw [Hp.drop_ne (r4 q hq)]
    exact g.bxH q hq o
  · rcases List.mem_cons.1 hx with rfl | hx
    · exact ⟨r1, r2, fun o _ => by (show G.H.drop r.b r.b o = none); simp [Hp.drop], r4, Nat.zero_le _, r7, r5⟩
    · rw [List.mem_filter] at hx
      obtain ⟨hx, hne⟩ := hx
      have hne : x.b ≠ r.b := by simpa using hne
      obtain ⟨q1, q2, q3, q4⟩ := g.rows x hx
      exact ⟨q1, q2, fun o ho => by (show G.H.drop r.b x.b o = none); rw [Hp.drop_ne hne]; exact q3 o ho, q4⟩
  · rw [List.map_cons, List.nodup_cons]
    refine ⟨fun hx => ?_, g.rinj.sublist (List.filter_sublist.map _)⟩
    obtain ⟨x, hx, he⟩ := List.mem_map.1 hx
    rw [List.mem_filter] at hx
    simp at hx
    exact hx.2 he
theorem WP.thaw {P : Program} {C : Code} {Q : Exit → Act → World → Prop} {G : Gh} {its : List It} {st : St} {r : ORow} (hn : noDr its = true) (hr : r ∈ G.R) (h0 : ∀ o, G.H0 r.b o = none)
    (h : WP P C Q { G with H := G.H.drop r.b, R := { r with n := 0 } :: G.R.filter (fun x => x.b != r.b), Z := [] } its st) : WP P C Q G its st :=
  WP.ghost hn (fun _ _ g => good_thaw g hr h0) h
/-- a row is written no more: all of it is known -/
theorem good_freeze {G : Gh} {β : Bl} {bx : List (List CV)} {w : World} (g : Good G β bx w) {r : ORow} {z : List Value} (hr : r ∈ G.R) (hz : (r.b, z) ∈ G.Z) :
    Good { G with H := G.H.add r.b (r.n * r.k) z, R := G.R.filter (fun x => x.b != r.b), Z := [] } β bx w := by
  obtain ⟨r1, r2, r3, r4, r6, r7, cs, r5, r8⟩ := g.rows r hr
  obtain ⟨r', hr', e1, e2⟩ := g.zs _ hz
  have := g.same hr' hr e1
  subst this
  have hcs := e2 cs r5
  simp only at hcs
  have hle : Hp.le G.H (G.H.add r'.b (r'.n * r'.k) z) := Hp.le_add fun o ho => r3 o ho
  refine ⟨g.os, g.tape, g.output, g.size, g.old, fun b o v h => ?_, Hp.le_trans g.le0 hle, fun b o h1 h2 => ?_, g.bl, g.bh, fun q hq o => ?_, g.bxlt, g.inj, fun x hx => ?_, g.rinj.sublist (List.filter_sublist.map _), fun q hq => by cases hq⟩
  · change G.H.add r'.b (r'.n * r'.k) z b o = some v at h
    by_cases hb : b = r'.b
    · subst hb
      unfold Hp.add at h
      simp only [true_and] at h
      split at h
      · rename_i hh
        rw [cell_of_row _ _ _ _ _ _ r5, ← h, ← hcs, List.getElem?_drop, ← Array.getElem?_toList]
        congr 1
        omega
      · exact g.imm _ _ _ h
    · rw [Hp.add_out (.inl hb)] at h
      exact g.imm _ _ _ h
  · cases h : G.H b o with
    | none => have := Hp.add_ne h h2; subst this; exact r1
    | some v => exact g.fresh b o h1 (by rw [h]; simp)
  · show G.H.add r'.b (r'.n * r'.k) z q.1 o = none
    rw [Hp.add_out (.inl (r4 q hq))]; exact g.bxH q hq o
  · rw [List.mem_filter] at hx
    obtain ⟨hx, hne⟩ := hx
    have hne : x.b ≠ r'.b := by simpa using hne
    obtain ⟨q1, q2, q3, q4⟩ := g.rows x hx
    exact ⟨q1, q2, fun o ho => by (show G.H.add r'.b (r'.n * r'.k) z x.b o = none); rw [Hp.add_out (.inl hne)]; exact q3 o ho, q4⟩
theorem WP.freeze {P : Program} {C : Code} {Q : Exit → Act → World → Prop} {G : Gh} {its : List It} {st : St} {r : ORow} {z : List Value} (hn : noDr its = true) (hr : r ∈ G.R) (hz : (r.b, z) ∈ G.Z)
    (h : WP P C Q { G with H := G.H.add r.b (r.n * r.k) z, R := G.R.filter (fun x => x.b != r.b), Z := [] } its st) : WP P C Q G its st :=
  WP.ghost hn (fun _ _ g => good_freeze g hr hz) h

/-! ### A store into a row of one's own -/
theorem good_rowset {G : Gh} {β : Bl} {bx : List (List CV)} {w : World} (g : Good G β bx w) {r : ORow} (hr : r ∈ G.R) {off : Nat} {vs : List Value} (h1 : r.n * r.k ≤ off) (h2 : off + vs.length ≤ r.c * r.k) :
    Good { G with Z := [] } β bx (w.setCells r.b off vs) := by
  obtain ⟨r1, r2, r3, r4, r6, r7, cs, r5, r8⟩ := g.rows r hr
  obtain ⟨e1, e2, e3, e4, e5⟩ := heap_setCells r.b vs off w
  have hcell : ∀ b o v, G.H b o = some v → (w.setCells r.b off vs).cell? ⟨b, o, none⟩ = some v := fun b o v h => by
    by_cases hb : b = r.b
    · subst hb
      rw [World.cell?_setCells_out r.b vs off w _ (fun _ _ => ?_)]
      · exact g.imm _ _ _ h
      · have : o < r.n * r.k := by
          apply Classical.byContradiction
          intro hge
          rw [r3 o (by omega)] at h
          cases h
        simp; omega
    · rw [World.cell?_of_block (w := w) (a := ⟨b, o, none⟩) (e1 b hb)]; exact g.imm _ _ _ h
  have hrow : ∃ cs', (w.setCells r.b off vs).heap[r.b]? = some (.cells cs' r.e (0, 0)) ∧ cs'.size = r.c * r.k := by
    have key : ∀ (vs : List Value) (off : Nat) (w : World) (cs : Array Value), w.heap[r.b]? = some (.cells cs r.e (0, 0)) → ∃ cs', (w.setCells r.b off vs).heap[r.b]? = some (.cells cs' r.e (0, 0)) ∧ cs'.size = cs.size := by
      intro vs
      induction vs with
      | nil => intro off w cs h; exact ⟨cs, h, rfl⟩
      | cons v vs ih =>
        intro off w cs h
        have hlt : r.b < w.heap.size := (Array.getElem?_eq_some_iff.1 h).1
        have hv : w.heap[r.b] = .cells cs r.e (0, 0) := (Array.getElem?_eq_some_iff.1 h).2
        have : (w.setCell ⟨r.b, off, none⟩ v).heap[r.b]? = some (.cells (cs.setIfInBounds off v) r.e (0, 0)) := by
          rw [Array.getElem?_eq_getElem (by simpa [World.setCell] using hlt)]
          simp only [World.setCell]
          rw [Array.getElem_modify, if_pos rfl, hv]
          rfl
        obtain ⟨cs', h1, h2⟩ := ih (off + 1) (w.setCell ⟨r.b, off, none⟩ v) _ this
        exact ⟨cs', h1, by simpa using h2⟩
    obtain ⟨cs', k1, k2⟩ := key vs off w cs r5
    exact ⟨cs', k1, k2.trans r8⟩
  refine ⟨e3.trans g.os, e4.trans g.tape, e5.trans g.output, by rw [e2]; exact g.size, fun b h3 h4 => ?_, hcell, g.le0, g.fresh, g.bl, ?_, g.bxH, fun q hq => by rw [e2]; exact g.bxlt q hq, g.inj, fun x hx => ?_, g.rinj, fun q hq => by cases hq⟩
  · rw [e1 b (fun e => by subst e; rcases r1 with h | h; exact absurd (show r.b < G.w0.heap.size from h3) (by omega); exact h4 h)]; exact g.old b h3 h4
  · intro k cs' q hk hq i c hc
    obtain ⟨x, k1, k2, k3⟩ := g.bh k cs' q hk hq i c hc
    have hne := r4 q (List.mem_of_getElem? hq)
    exact ⟨x, k1, by rw [World.cell?_of_block (w := w) (a := ⟨q.1, q.2 + i, none⟩) (e1 _ hne)]; exact k2, by rw [World.frozen?_setCells]; exact k3⟩
  · obtain ⟨q1, q2, q3, q4, q6, q7, cs', q5, q8⟩ := g.rows x hx
    by_cases hb : x.b = r.b
    · have := g.same hx hr hb
      subst this
      exact ⟨q1, by rw [e2]; exact q2, q3, q4, q6, q7, hrow⟩
    · exact ⟨q1, by rw [e2]; exact q2, q3, q4, q6, q7, cs', by rw [e1 _ hb]; exact q5, q8⟩
theorem EvG.wstore {P : Program} {T : Tb} (hT : TOk P T) {C : Code} {Q : Exit → Act → World → Prop} {G : Gh} {its : List It} {st : St} {t ty : TypeId} {ti : TI} {x y : Operand} {off : Nat} {r : ORow} {l : List Value} (ht : T.lookup t = some ti) (hr : r ∈ G.R)
    (hl : l.length = ti.size) (h1 : r.n * r.k ≤ off) (h2 : off + l.length ≤ r.c * r.k) (hp : ∀ u ∈ l, u.oneCell' = true) (h : WP P C Q { G with Z := [] } its st) :
    EvG P C Q G none its st (.prim (.store t x y) ty [.c (.v (.pointer (some ⟨r.b, off, none⟩))), .agg (l.map .v)]) := by
  intro hit β w vs ρ g hvs hops
  have hv : vs = [.pointer (some ⟨r.b, off, none⟩), .agg l.toArray] := by
    have : tvsDen β [.c (.v (.pointer (some ⟨r.b, off, none⟩))), .agg (l.map .v)] = some [.pointer (some ⟨r.b, off, none⟩), .agg l.toArray] := by
      simp [tvsDen, TV.den, CV.den, denL_v]
    rw [this] at hvs
    exact (Option.some.inj hvs).symm
  subst hv
  have hx : ρ x = .pointer (some ⟨r.b, off, none⟩) ∧ ρ y = .agg l.toArray := by simpa [Op.operands] using hops
  obtain ⟨r1, r2, r3, r4, r6, r7, cs, r5, r8⟩ := g.rows r hr
  refine .inr ⟨w.setCells r.b off l, { G with Z := [] }, [], st.bx, rfl, ?_, by rw [List.append_nil]; exact good_rowset g hr h1 h2, hit, h⟩
  have ok := hT.ok ht
  have hst := run_storeCells_cells (P := P) r.b off l 0 w
    (fun j hj => by rw [cell_of_row _ _ _ _ _ _ r5, Array.getElem?_eq_getElem (by omega)]; rfl)
    (fun j hj => by simp [World.frozen?, r5])
    hp
  simp only [execOp, hx.1, hx.2, Instr.storeAt, Instr.sureAddr, Sem.run_bind, Sem.run_pure, Result.andThen_ok, storeVar, ok.size, Sem.run_ite, Value.cells, List.size_toArray, hl, ne_eq, not_true, if_false, hst, Nat.add_zero]
end Go.Sx
