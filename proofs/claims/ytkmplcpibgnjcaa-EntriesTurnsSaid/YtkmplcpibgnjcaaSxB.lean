/- A symbolic executor over the model's wp, part 11: contracts of functions that write nothing that was there; calls, results, loops. -/
import Derived.Test.YtkmplcpibgnjcaaSxA
import Derived.Deep.LoopGhost
namespace Go.Sx
open Go.RowKit

/-- the call hands back what R says, and turns nothing that was there -/
def PC (P : Program) (f : FuncId) (args : List Value) (H : Hp) (R : Hp → Value → Prop) : Prop :=
  ∀ w, Agree H w → Calls P f args.toArray w fun e w' => ∃ v H', e = .returned v ∧ Below w.heap.size w w' ∧ Hp.le H H' ∧ Agree H' w' ∧
    (∀ b o, H b o = none → H' b o ≠ none → w.heap.size ≤ b) ∧ R H' v
theorem PC.mono {P : Program} {f : FuncId} {args : List Value} {H : Hp} {R R' : Hp → Value → Prop} (h : PC P f args H R) (hr : ∀ H' v, Hp.le H H' → R H' v → R' H' v) : PC P f args H R' :=
  fun w hw => (h w hw).mono fun _ _ ⟨v, H', h1, h2, h3, h4, h5, h6⟩ => ⟨v, H', h1, h2, h3, h4, h5, hr _ _ h3 h6⟩

/-- more is known -/
def Gh.seth (G : Gh) (H : Hp) : Gh := { G with H := H }
theorem EvG.pure {P : Program} {C : Code} {Q : Exit → Act → World → Prop} {G : Gh} {d : Option Nat} {its : List It} {st : St} {f : FuncId} {args : List TV} {vs : List Value} {R : Hp → Value → Prop}
    (hc : ∀ as w, (callFunc f as).run P w = .ok (.enter f as) w) (hcl : ∀ β, tvsDen β args = some vs) (hpc : PC P f vs G.H R)
    (h : ∀ H' v, Hp.le G.H H' → R H' v → ∃ av st', (∀ β, av.is β v) ∧ st.put d av = some st' ∧ WP P C Q (G.seth H') its st') : EvG P C Q G d its st (.call f args) := by
  intro hit
  refine ⟨hc, fun β w vs' g hvs => ?_⟩
  rw [hcl β] at hvs; cases hvs
  refine (hpc w g.imm).mono fun e w' ⟨v, H', h1, h2, h3, h4, h5, h6⟩ => ?_
  obtain ⟨av, st', ha, hp, hw⟩ := h H' v h3 h6
  have e := put_same_bx hp
  exact ⟨v, av, st', { G with H := H' }, [], st'.bx, h1, ha _, hp, (by rw [List.append_nil, e]; exact good_call g h2 h3 h4 h5), (by rw [e]; exact hit.le h3), hw⟩

/-- the numbers' operations as variables -/
theorem ops_open {p : Prop} (h : ∀ oW oA oS oM oBa oBo oBx oBn oE oN oL oLe oAnd oOr oNot oBq oSq oMx oMn oC oSz oAd oIx oQu oRe oSl oSr,
    Ops.std = ⟨oW, oA, oS, oM, oBa, oBo, oBx, oBn, oE, oN, oL, oLe, oAnd, oOr, oNot, oBq, oSq, oMx, oMn, oC, oSz, oAd, oIx, oQu, oRe, oSl, oSr⟩ → p) : p := h _ _ _ _ _ _ _ _ _ _ _ _ _ _ _ _ _ _ _ _ _ _ _ _ _ _ _ rfl

/-! ### Loops; what is known less of -/
def AV.unkb : AV → AV
  | .kb b => .t (.c (.v (.bool b)))
  | x => x
theorem AV.is_unkb {β : Bl} {av : AV} {v : Value} (h : av.is β v) : av.unkb.is β v := by
  cases av with
  | kb b => cases h; rfl
  | t x => exact h
  | tup xs => exact h
def keepT (ks : List Nat) (t : List (Nat × AV)) : List (Nat × AV) := ks.filterMap fun d => (t.lookup d).map fun av => (d, av.unkb)
theorem keepT_lookup {t : List (Nat × AV)} : ∀ {ks : List Nat} {d : Nat} {av : AV}, (keepT ks t).lookup d = some av → ∃ av0, t.lookup d = some av0 ∧ av = av0.unkb
  | [], d, av, h => by simp [keepT] at h
  | k :: ks, d, av, h => by
    unfold keepT at h
    simp only [List.filterMap_cons] at h
    cases hk : t.lookup k with
    | none => rw [hk] at h; exact keepT_lookup (ks := ks) h
    | some x =>
      rw [hk] at h
      simp only [Option.map_some, List.lookup] at h
      split at h
      · rename_i e; simp at e h; subst e; exact ⟨x, hk, h.symm⟩
      · exact keepT_lookup (ks := ks) h
theorem Rel.keep {β : Bl} {st : St} {a : Act} (r : Rel β st a) (ks : List Nat) : Rel β { n := st.n, t := keepT ks st.t, g := [], bx := st.bx } a :=
  ⟨r.size, fun d av h => by obtain ⟨av0, h1, rfl⟩ := keepT_lookup h; exact ⟨(r.tm d av0 h1).1, AV.is_unkb (r.tm d av0 h1).2⟩, fun p hp => by simp at hp, r.df, fun p hp => by simp at hp⟩
theorem WP.keep {P : Program} {C : Code} {Q : Exit → Act → World → Prop} {G : Gh} {its : List It} {st : St} (ks : List Nat)
    (h : WP P C Q G its { n := st.n, t := keepT ks st.t, g := [], bx := st.bx }) : WP P C Q G its st := fun hit β a w r g hd => h hit β a w (r.keep ks) g hd

def LQ {α : Type} (P : Program) (C : Code) (Q : Exit → Act → World → Prop) (its : List It) (I : α → Prop) (S : α → St) (Gf : α → Gh) (μ : α → Nat) (x : α) : Exit → Act → World → Prop
  | .normal, a, w => ∃ y β, I y ∧ μ y < μ x ∧ Rel β (S y) a ∧ Good (Gf y) β (S y).bx w
  | e, a, w => Xk P C Q its e a w
theorem LoopG.mk {α : Type} {P : Program} {C : Code} {Q : Exit → Act → World → Prop} {G : Gh} {p : List Nat} {its : List It} {st : St} (ks : List Nat) (I : α → Prop) (S : α → St) (Gf : α → Gh) (μ : α → Nat) (x0 : α)
    {q : List Nat} (hp : p = 0 :: q) (hs : ∃ c, sub C q = some (.loop c)) (hI : I x0) (h0 : S x0 = { n := st.n, t := keepT ks st.t, g := [], bx := st.bx }) (hG : Gf x0 = G)
    (hround : ∀ x, I x → WP P C (LQ P C Q its I S Gf μ x) (Gf x) [.code p] (S x)) : LoopG P C Q G p its st := by
  intro β a w r g
  subst hp
  obtain ⟨c, hc⟩ := hs
  have hsub : sub C (0 :: q) = some c := by simp only [sub, hc, child]
  refine ⟨c, hsub, ?_⟩
  refine wp_loop_ghost (fun n a w => ∃ x β, I x ∧ μ x = n ∧ Rel β (S x) a ∧ Good (Gf x) β (S x).bx w) (μ x0) ⟨x0, β, hI, rfl, by rw [h0]; exact r.keep ks, by rw [hG, h0]; exact g⟩ ?_
  rintro n a w ⟨x, β, hi, rfl, r, g⟩
  obtain ⟨c', hc', h⟩ := hround x hi (ItOk.of rfl) β a w r g trivial
  rw [hsub] at hc'; cases hc'
  refine wp_mono h fun e a w q => ?_
  cases e with
  | normal => obtain ⟨y, β', hy, h1, h2, h3⟩ := q; exact ⟨μ y, h1, y, β', hy, rfl, h2, h3⟩
  | _ => exact q
/-- a round's end -/
theorem FinG.round {α : Type} {P : Program} {C : Code} {Q : Exit → Act → World → Prop} {G : Gh} {its : List It} {I : α → Prop} {S : α → St} {Gf : α → Gh} {μ : α → Nat} {x : α} {st : St} (ks : List Nat) (y : α) (hI : I y) (hμ : μ y < μ x)
    (hS : S y = { n := st.n, t := keepT ks st.t, g := [], bx := st.bx }) (hG : Gf y = G) : FinG (LQ P C Q its I S Gf μ x) G .normal st :=
  fun β a w r g => ⟨y, β, hI, hμ, by rw [hS]; exact r.keep ks, by rw [hG, hS]; exact g⟩
/-- a loop is left by a block's number -/
theorem FinG.leave {α : Type} {P : Program} {C : Code} {Q : Exit → Act → World → Prop} {G : Gh} {its its' : List It} {I : α → Prop} {S : α → St} {Gf : α → Gh} {μ : α → Nat} {x : α} {st : St} {id : Nat} (hl : Sx.leave id its = some its') (hn : noDr its' = true)
    (h : WP P C Q G its' st) : FinG (LQ P C Q its I S Gf μ x) G (.exit id) st := fun β a w r g => by
  have := h (ItOk.of hn) β a w r g (DrHyp.of hn)
  rw [itsD_of hn] at this
  exact exWp_leave hl this
/-- an inner loop is left by a number of an outer block -/
theorem FinG.out {α : Type} {P : Program} {C : Code} {Q : Exit → Act → World → Prop} {G : Gh} {its : List It} {I : α → Prop} {S : α → St} {Gf : α → Gh} {μ : α → Nat} {x : α} {st : St} {id : Nat} (hl : Sx.leave id its = none)
    (h : FinG Q G (.exit id) st) : FinG (LQ P C Q its I S Gf μ x) G (.exit id) st := fun β a w r g => exWp_none hl (h β a w r g)
/-- a function is left out of a loop -/
theorem RetG.loop {α : Type} {T : Tb} {rs : List ResultVar} {P : Program} {C : Code} {Q : Exit → Act → World → Prop} {G : Gh} {its : List It} {I : α → Prop} {S : α → St} {Gf : α → Gh} {μ : α → Nat} {x : α} {st : St} {vs : Option (List TV)}
    (h : RetG T rs Q G vs st) : RetG T rs (LQ P C Q its I S Gf μ x) G vs st := fun e β a w r g => h e β a w r g
theorem PanicOk.body (P : Program) (fn : Func) (R : Ending → World → Prop) : PanicOk (bodyPost P fn R) := fun c d v a w h => by
  obtain ⟨h1, h2⟩ := h
  refine ⟨?_, h2⟩
  cases d <;> exact h1
theorem PanicOk.lq {α : Type} {P : Program} {C : Code} {Q : Exit → Act → World → Prop} {its : List It} {I : α → Prop} {S : α → St} {Gf : α → Gh} {μ : α → Nat} {x : α} (h : PanicOk Q) : PanicOk (LQ P C Q its I S Gf μ x) :=
  fun c d v a w hh => h c d v a w hh

/-! ### Entering, and the results -/
def St.start (n : Nat) (tvs : List TV) : St := { n := n, t := tvs.zipIdx.map fun p => (p.2, .t p.1), g := [], bx := [] }
def Gh.start (w : World) (H : Hp) : Gh := { w0 := w, M := fun _ => False, H := H, H0 := H, R := [] }
def tupV (vs : List Value) : Value := if h : vs.toArray.size = 1 then vs.toArray[0] else .tuple vs.toArray
def PCpost (w : World) (H : Hp) (R : Hp → Value → Prop) (e : Ending) (w' : World) : Prop := ∃ v H', e = .returned v ∧ Below w.heap.size w w' ∧ Hp.le H H' ∧ Agree H' w' ∧
    (∀ b o, H b o = none → H' b o ≠ none → w.heap.size ≤ b) ∧ R H' v

theorem lookup_zip : ∀ (tvs : List TV) (n d : Nat) (av : AV), ((tvs.zipIdx n).map fun p => (p.2, AV.t p.1)).lookup d = some av → ∃ i x, d = n + i ∧ tvs[i]? = some x ∧ av = .t x
  | [], n, d, av, h => by simp at h
  | x :: l, n, d, av, h => by
    simp only [List.zipIdx_cons, List.map_cons, List.lookup] at h
    split at h
    · rename_i e; simp at e h; subst e; subst h; exact ⟨0, x, rfl, rfl, rfl⟩
    · obtain ⟨i, y, rfl, h2, h3⟩ := lookup_zip l (n + 1) d av h
      exact ⟨i + 1, y, by omega, by simpa using h2, h3⟩

theorem rel_start {n : Nat} {tvs : List TV} {args : List Value} (hcl : tvsDen [] tvs = some args) (hn : args.length ≤ n) :
    Rel [] (St.start n tvs) { tmps := args.toArray ++ Array.replicate (n - args.toArray.size) undef, defers := [] } := by
  refine ⟨by simp [St.start]; omega, fun d av h => ?_, fun p hp => by simp [St.start] at hp, rfl, fun p hp => by simp [St.start] at hp⟩
  obtain ⟨i, x, rfl, h2, rfl⟩ := lookup_zip tvs 0 d av h
  obtain ⟨v, hv, hg⟩ := tvsDen_get hcl i x h2
  have hi : i < args.length := (List.getElem?_eq_some_iff.1 hg).1
  refine ⟨by simp [St.start]; omega, ?_⟩
  have : (args.toArray ++ Array.replicate (n - args.toArray.size) undef).getD (0 + i) undef = v := by
    rw [Nat.zero_add, Array.getD_eq_getD_getElem?, Array.getElem?_append_left (by simpa using hi)]
    simp [hg]
  rw [this]
  exact hv

theorem good_start {w : World} {H : Hp} (h : Agree H w) : Good (Gh.start w H) [] [] w :=
  ⟨rfl, rfl, rfl, Nat.le_refl _, fun _ _ _ => rfl, h, Hp.le_refl _, fun b o h1 h2 => absurd h1 h2, rfl, fun k cs q hk => (by simp at hk), fun q hq => (by cases hq), fun q hq => (by cases hq), by simp, fun r hr => (by cases hr), by simp [Gh.start], fun q hq => (by cases hq)⟩

theorem PC.enter {P : Program} {f : FuncId} {fn : Func} {C : Code} {args : List Value} {H : Hp} {R : Hp → Value → Prop} (tvs : List TV) (hf : P.funcs[f]? = some fn) (hb : fn.body = some C)
    (hcl : tvsDen [] tvs = some args) (n : Nat) (hn : fn.ntmps = n) (hl : args.length ≤ n) (h : ∀ w, Agree H w → WP P C (bodyPost P fn (PCpost w H R)) (Gh.start w H) [.code []] (St.start n tvs)) : PC P f args H R := by
  intro w hw
  refine calls_of_wp hf hb ?_
  have h1 := h w hw (ItOk.of rfl) [] _ w (rel_start hcl hl) (good_start hw) trivial
  obtain ⟨c, hc, h2⟩ := h1
  simp only [sub, Option.some.injEq] at hc
  subst hc
  rw [hn]
  refine wp_mono h2 fun e a w q => ?_
  cases e <;> exact q

def resF (tmps : Array Value) (r : ResultVar) : Sem Value :=
  match r with
  | .tmp t => pure (tmps.getD t undef)
  | .cell b t => asAddr (tmps.getD b undef) >>= fun x => loadVar t x
theorem results_eq (fn : Func) (tmps : Array Value) : results fn tmps = (fn.results.mapM (resF tmps) >>= fun vs => pure (if h : vs.size = 1 then vs[0] else .tuple vs)) := rfl

section
variable {P : Program} {T : Tb} (hT : TOk P T)
include hT
theorem xres_ok {β : Bl} {st : St} {a : Act} {w : World} (r : Rel β st a) (hbx : BxHold β st.bx w) (hbl : β.length = st.bx.length) : ∀ {l : List ResultVar} {tvs : List TV}, xres T st l = some tvs →
    ∃ vs, tvsDen β tvs = some vs ∧ (l.mapM (resF a.tmps)).run P w = .ok vs w
  | [], tvs, h => by cases h; exact ⟨[], rfl, rfl⟩
  | .tmp t :: l, tvs, h => by
    simp only [xres] at h
    split at h
    case h_2 => cases h
    rename_i x res hx hr
    cases h
    obtain ⟨vs, h1, h2⟩ := xres_ok r hbx hbl hr
    have h3 := ev_den r (g := none) (fun _ _ e => by cases e) hx
    refine ⟨_, by simp only [tvsDen, h3, Option.bind_some, h1, Option.map_some]; rfl, ?_⟩
    simp only [List.mapM_cons, resF, Sem.run_bind, Sem.run_pure, Result.andThen_ok]
    rw [h2]
    rfl
  | .cell b t :: l, tvs, h => by
    simp only [xres] at h
    split at h
    case h_2 => cases h
    rename_i ti k off res hti hx hr
    split at h
    case h_2 => cases h
    rename_i cs hcs
    simp only [Option.map_eq_some_iff] at h
    obtain ⟨y, hy, rfl⟩ := h
    obtain ⟨vs, h1, h2⟩ := xres_ok r hbx hbl hr
    have h3 := ev_den r (g := none) (fun _ _ e => by cases e) hx
    have hk : k < β.length := by rw [hbl]; exact (List.getElem?_eq_some_iff.1 hcs).1
    have hq : β[k]? = some β[k] := List.getElem?_eq_getElem hk
    simp only [TV.den, CV.den, adr, hq, Option.map_some, Option.some.injEq] at h3
    obtain ⟨xs, hxs, hc⟩ := bx_den hbx hcs hq
    obtain ⟨v, hv, hrun⟩ := xload_ok (b := β[k].1) (o := β[k].2) (hT.ok hti) hy hxs
    have h4 := hrun w (fun i x hx => (hc i x hx).1)
    have h5 : a.tmps.getD b undef = .pointer (some ⟨β[k].1, β[k].2 + off, none⟩) := h3.symm
    refine ⟨v :: vs, by simp only [tvsDen, hv, Option.bind_some, h1, Option.map_some], ?_⟩
    have h6 : (asAddr (a.tmps.getD b undef)).run P w = .ok ⟨β[k].1, β[k].2 + off, none⟩ w := by rw [h5]; rfl
    have h7 : (resF a.tmps (.cell b t)).run P w = .ok v w := by simp only [resF, Sem.run_bind, h6, Result.andThen_ok, h4]
    simp only [List.mapM_cons, Sem.run_bind, h7, Sem.run_pure, Result.andThen_ok, h2]

theorem RetG.pc {fn : Func} {rs : List ResultVar} {G : Gh} {st : St} {w : World} {H : Hp} {R : Hp → Value → Prop} {tvs : List TV} {vs : List Value} (hrs : fn.results.toList = rs)
    (hw : G.w0 = w) (hM : G.M = fun _ => False) (hH : G.H0 = H) (hcl : ∀ β, tvsDen β tvs = some vs) (h : R G.H (tupV vs)) : RetG T rs (bodyPost P fn (PCpost w H R)) G (some tvs) st := by
  subst hw hH hrs
  intro hx β a w r g
  obtain ⟨vs', h1, h2⟩ := xres_ok hT r g.bh g.bl hx
  rw [hcl β] at h1; cases h1
  refine ⟨r.df, tupV vs, ?_, tupV vs, G.H, rfl, ⟨g.os, g.tape, g.output, g.size, fun k hk => g.old k hk (by rw [hM]; exact id)⟩, g.le0, g.imm, fun b o h1 h2 => (g.fresh b o h1 h2).resolve_right (by rw [hM]; exact id), h⟩
  have h3 : (fn.results.mapM (resF a.tmps)).run P w = .ok vs.toArray w := by
    revert h2
    generalize fn.results = l
    obtain ⟨l⟩ := l
    intro h2
    rw [List.mapM_toArray, Sem.run_map, h2]
    rfl
  rw [results_eq, Sem.run_bind, h3]
  rfl
end
end Go.Sx
