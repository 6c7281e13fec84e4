/- A symbolic executor over the model's wp: contracts of functions that are handed rows to append to, or hand back such rows. -/
import Derived.Test.YtkmplcpibgnjcaaSxB
namespace Go.Sx
open Go.RowKit

def OwnOk (H : Hp) (R : List ORow) (w : World) : Prop :=
  (∀ r ∈ R, r.b < w.heap.size ∧ (∀ o, r.n * r.k ≤ o → H r.b o = none) ∧ r.n ≤ r.c ∧ r.c ≤ maxLen ∧ ∃ cs, w.heap[r.b]? = some (.cells cs r.e (0, 0)) ∧ cs.size = r.c * r.k) ∧ (R.map (·.b)).Nodup
structure BelowM (R : List ORow) (w w' : World) : Prop where
  os : w'.os = w.os
  tape : w'.tape = w.tape
  output : w'.output = w.output
  size : w.heap.size ≤ w'.heap.size
  block : ∀ k, k < w.heap.size → (∀ r ∈ R, r.b ≠ k) → w'.heap[k]? = w.heap[k]?
/-- the call is handed the rows Rin to append to, and hands back other ones -/
def PCOpost (w : World) (H : Hp) (Rin : List ORow) (R : Hp → List ORow → Value → Prop) (e : Ending) (w' : World) : Prop := ∃ v H' Ro, e = .returned v ∧ BelowM Rin w w' ∧ Hp.le H H' ∧ Agree H' w' ∧
    (∀ b o, H b o = none → H' b o ≠ none → w.heap.size ≤ b ∨ ∃ r ∈ Rin, r.b = b) ∧ OwnOk H' Ro w' ∧ (∀ r ∈ Ro, w.heap.size ≤ r.b ∨ ∃ q ∈ Rin, q.b = r.b) ∧ R H' Ro v
def PCO (P : Program) (f : FuncId) (args : List Value) (H : Hp) (Rin : List ORow) (R : Hp → List ORow → Value → Prop) : Prop :=
  ∀ w, Agree H w → OwnOk H Rin w → Calls P f args.toArray w (PCOpost w H Rin R)
theorem PCO.pc {P : Program} {f : FuncId} {args : List Value} {H : Hp} {R : Hp → List ORow → Value → Prop} (h : PCO P f args H [] R) : PC P f args H fun H' v => ∃ Ro, R H' Ro v :=
  fun w hw => (h w hw ⟨fun _ h => absurd h (by simp), by simp⟩).mono fun _ _ ⟨v, H', Ro, h1, h2, h3, h4, h5, _, _, h6⟩ =>
    ⟨v, H', h1, ⟨h2.os, h2.tape, h2.output, h2.size, fun k hk => h2.block k hk (fun _ h => absurd h (by simp))⟩, h3, h4, fun b o a c => (h5 b o a c).resolve_right (by simp), Ro, h6⟩

theorem good_callO {G : Gh} {β : Bl} {bx : List (List CV)} {w w' : World} {H' : Hp} {Rin Ro : List ORow} (g : Good G β bx w) (hin : ∀ r ∈ Rin, r ∈ G.R) (hb : BelowM Rin w w') (hle : Hp.le G.H H') (hag : Agree H' w')
    (hf : ∀ b o, G.H b o = none → H' b o ≠ none → w.heap.size ≤ b ∨ ∃ r ∈ Rin, r.b = b) (ho : OwnOk H' Ro w') (hro : ∀ r ∈ Ro, w.heap.size ≤ r.b ∨ ∃ q ∈ Rin, q.b = r.b) :
    Good { G with H := H', R := Ro ++ G.R.filter (fun x => Rin.all fun q => q.b != x.b), Z := [] } β bx w' := by
  have fr : ∀ b o, b < w.heap.size → (∀ r ∈ Rin, r.b ≠ b) → G.H b o = none → H' b o = none := fun b o h1 h3 h2 => by
    cases h : H' b o with
    | none => rfl
    | some v =>
      rcases hf b o h2 (by rw [h]; simp) with h4 | ⟨r, h4, h5⟩
      · omega
      · exact absurd h5 (h3 r h4)
  have hbx : ∀ q ∈ β, ∀ r ∈ Rin, r.b ≠ q.1 := fun q hq r hr => ((g.rows r (hin r hr)).2.2.2.1 q hq).symm
  refine ⟨hb.os.trans g.os, hb.tape.trans g.tape, hb.output.trans g.output, Nat.le_trans g.size hb.size, fun b h1 h2 => ?_, hag, Hp.le_trans g.le0 hle, fun b o h1 h2 => ?_, g.bl, ?_, fun q hq o => ?_, fun q hq => ?_, g.inj, fun r hr => ?_, ?_, fun q hq => by cases hq⟩
  · rw [hb.block b (Nat.lt_of_lt_of_le h1 g.size) (fun r hr e => by
      rcases (g.rows r (hin r hr)).1 with h | h
      · exact absurd (show b < G.w0.heap.size from h1) (by omega)
      · exact h2 (e ▸ h))]
    exact g.old b h1 h2
  · cases h : G.H b o with
    | none =>
      rcases hf b o h h2 with h3 | ⟨r, h3, rfl⟩
      · exact .inl (Nat.le_trans g.size h3)
      · exact (g.rows r (hin r h3)).1
    | some v => exact g.fresh b o h1 (by rw [h]; simp)
  · intro k cs q hk hq i c hc
    obtain ⟨x, e1, e2, e3⟩ := g.bh k cs q hk hq i c hc
    have hm := List.mem_of_getElem? hq
    have hbl := hb.block q.1 (g.bxlt q hm).1 (hbx q hm)
    exact ⟨x, e1, by rw [World.cell?_of_block (w := w) (a := ⟨q.1, q.2 + i, none⟩) hbl]; exact e2, by rw [World.frozen?_of_block (w := w) (a := ⟨q.1, q.2 + i, none⟩) hbl]; exact e3⟩
  · exact fr _ _ (g.bxlt q hq).1 (hbx q hq) (g.bxH q hq o)
  · have := g.bxlt q hq
    have := hb.size
    exact ⟨by omega, (g.bxlt q hq).2⟩
  · rcases List.mem_append.1 hr with hr | hr
    · obtain ⟨h1, h2, h3, h4, h5⟩ := ho.1 r hr
      refine ⟨?_, h1, h2, fun q hq => ?_, h3, h4, h5⟩
      · rcases hro r hr with h | ⟨q, hq, e⟩
        · exact .inl (Nat.le_trans g.size h)
        · rw [← e]; exact (g.rows q (hin q hq)).1
      · rcases hro r hr with h | ⟨q', hq', e⟩
        · have := (g.bxlt q hq).1; omega
        · rw [← e]; exact (hbx q hq q' hq').symm
    · rw [List.mem_filter] at hr
      obtain ⟨hr, hne⟩ := hr
      have hne : ∀ q ∈ Rin, q.b ≠ r.b := fun q hq => by have := List.all_eq_true.1 hne q hq; simpa using this
      obtain ⟨r1, r2, r3, r4, r6, r7, cs, r5, r8⟩ := g.rows r hr
      have := hb.size
      exact ⟨r1, by omega, fun o ho => fr _ _ r2 hne (r3 o ho), r4, r6, r7, cs, by rw [hb.block _ r2 hne]; exact r5, r8⟩
  · rw [List.map_append]
    refine List.nodup_append.2 ⟨ho.2, g.rinj.sublist (List.filter_sublist.map _), fun x hx y hy => ?_⟩
    obtain ⟨r, hr, rfl⟩ := List.mem_map.1 hx
    obtain ⟨q, hq, rfl⟩ := List.mem_map.1 hy
    rw [List.mem_filter] at hq
    obtain ⟨hq, hne⟩ := hq
    have hne : ∀ x ∈ Rin, x.b ≠ q.b := fun x hx => by have := List.all_eq_true.1 hne x hx; simpa using this
    rcases hro r hr with h | ⟨x, hx, e⟩
    · have := (g.rows q hq).2.1; omega
    · rw [← e]; exact hne x hx

theorem EvG.own {P : Program} {C : Code} {Q : Exit → Act → World → Prop} {G : Gh} {d : Option Nat} {its : List It} {st : St} {f : FuncId} {args : List TV} {vs : List Value} {Rin : List ORow} {R : Hp → List ORow → Value → Prop}
    (hc : ∀ as w, (callFunc f as).run P w = .ok (.enter f as) w) (hcl : ∀ β, tvsDen β args = some vs) (hin : ∀ r ∈ Rin, r ∈ G.R) (hnd : (Rin.map (·.b)).Nodup) (hpc : PCO P f vs G.H Rin R)
    (h : ∀ H' Ro v, Hp.le G.H H' → R H' Ro v → ∃ av st', (∀ β, av.is β v) ∧ st.put d av = some st' ∧ WP P C Q { G with H := H', R := Ro ++ G.R.filter (fun x => Rin.all fun q => q.b != x.b), Z := [] } its st') : EvG P C Q G d its st (.call f args) := by
  intro hit
  refine ⟨hc, fun β w vs' g hvs => ?_⟩
  rw [hcl β] at hvs; cases hvs
  refine (hpc w g.imm ⟨fun r hr => ?_, hnd⟩).mono fun e w' ⟨v, H', Ro, h1, h2, h3, h4, h5, h7, h8, h6⟩ => ?_
  · obtain ⟨r1, r2, r3, r4, r6, r7, cs, r5, r8⟩ := g.rows r (hin r hr)
    exact ⟨r2, r3, r6, r7, cs, r5, r8⟩
  obtain ⟨av, st', ha, hp, hw⟩ := h H' Ro v h3 h6
  have e := put_same_bx hp
  exact ⟨v, av, st', { G with H := H', R := Ro ++ G.R.filter (fun x => Rin.all fun q => q.b != x.b), Z := [] }, [], st'.bx, h1, ha _, hp, (by rw [List.append_nil, e]; exact good_callO g hin h2 h3 h4 h5 h7 h8), (by rw [e]; exact hit.le h3), hw⟩

def Gh.startO (w : World) (H : Hp) (Rin : List ORow) : Gh := { w0 := w, M := fun b => ∃ r ∈ Rin, r.b = b, H := H, H0 := H, R := Rin }
theorem good_startO {w : World} {H : Hp} {Rin : List ORow} (h : Agree H w) (ho : OwnOk H Rin w) : Good (Gh.startO w H Rin) [] [] w :=
  ⟨rfl, rfl, rfl, Nat.le_refl _, fun _ _ _ => rfl, h, Hp.le_refl _, fun b o h1 h2 => absurd h1 h2, rfl, fun k cs q hk => (by simp at hk), fun q hq => (by cases hq), fun q hq => (by cases hq), by simp,
    fun r hr => (by obtain ⟨h1, h2, h3, h4, h5⟩ := ho.1 r hr; exact ⟨.inr ⟨r, hr, rfl⟩, h1, h2, fun q hq => (by cases hq), h3, h4, h5⟩), ho.2, fun q hq => (by cases hq)⟩

theorem PCO.enter {P : Program} {f : FuncId} {fn : Func} {C : Code} {args : List Value} {H : Hp} {Rin : List ORow} {R : Hp → List ORow → Value → Prop} (tvs : List TV) (hf : P.funcs[f]? = some fn) (hb : fn.body = some C)
    (hcl : tvsDen [] tvs = some args) (n : Nat) (hn : fn.ntmps = n) (hl : args.length ≤ n) (h : ∀ w, Agree H w → WP P C (bodyPost P fn (PCOpost w H Rin R)) (Gh.startO w H Rin) [.code []] (St.start n tvs)) : PCO P f args H Rin R := by
  intro w hw ho
  refine calls_of_wp hf hb ?_
  have h1 := h w hw (ItOk.of rfl) [] _ w (rel_start hcl hl) (good_startO hw ho) trivial
  obtain ⟨c, hc, h2⟩ := h1
  simp only [sub, Option.some.injEq] at hc
  subst hc
  rw [hn]
  refine wp_mono h2 fun e a w q => ?_
  cases e <;> exact q

theorem RetG.pco {P : Program} {T : Tb} (hT : TOk P T) {fn : Func} {rs : List ResultVar} {G : Gh} {st : St} {w : World} {H : Hp} {Rin Ro : List ORow} {R : Hp → List ORow → Value → Prop} {tvs : List TV} {vs : List Value} (hrs : fn.results.toList = rs)
    (hw : G.w0 = w) (hM : G.M = fun b => ∃ r ∈ Rin, r.b = b) (hH : G.H0 = H) (hR : Ro.Sublist G.R) (hcl : ∀ β, tvsDen β tvs = some vs) (h : R G.H Ro (tupV vs)) : RetG T rs (bodyPost P fn (PCOpost w H Rin R)) G (some tvs) st := by
  subst hw hH hrs
  intro hx β a w r g
  obtain ⟨vs', h1, h2⟩ := xres_ok hT r g.bh g.bl hx
  rw [hcl β] at h1; cases h1
  have hrow : ∀ r ∈ Ro, r ∈ G.R := fun r hr => hR.subset hr
  refine ⟨r.df, tupV vs, ?_, tupV vs, G.H, Ro, rfl, ⟨g.os, g.tape, g.output, g.size, fun k hk hne => g.old k hk (by rw [hM]; rintro ⟨r, h1, h2⟩; exact hne r h1 h2)⟩, g.le0, g.imm,
    fun b o h1 h2 => by have := g.fresh b o h1 h2; rwa [hM] at this, ⟨fun r hr => ?_, g.rinj.sublist (hR.map _)⟩, fun r hr => by have := (g.rows r (hrow r hr)).1; rwa [hM] at this, h⟩
  · have h3 : (fn.results.mapM (resF a.tmps)).run P w = .ok vs.toArray w := by
      revert h2
      generalize fn.results = l
      obtain ⟨l⟩ := l
      intro h2
      rw [List.mapM_toArray, Sem.run_map, h2]
      rfl
    rw [results_eq, Sem.run_bind, h3]
    rfl
  · obtain ⟨r1, r2, r3, r4, r6, r7, cs, r5, r8⟩ := g.rows r (hrow r hr)
    exact ⟨r2, r3, r6, r7, cs, r5, r8⟩
end Go.Sx
