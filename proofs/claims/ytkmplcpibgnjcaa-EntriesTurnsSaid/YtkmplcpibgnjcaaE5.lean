/- Contracts: cmp.Compare, cmp.Or, Newer. -/
import Derived.Test.YtkmplcpibgnjcaaE3
namespace Go.Sx
open Go.Proofs Go.RowKit

noncomputable def C88 : Code := fbody Try.f88
theorem C88b : Try.f88.body = some C88 := by kernel_rfl
theorem C88r : Try.f88.results.toList = [.tmp 2] := by kernel_rfl
def D88 : List (List Nat) := []
theorem D88ok : drOk C88 D88 = true := by kernel_rfl
noncomputable def E88 (O : Ops) (H : Hp) : Env := ⟨O, H, TE, C88, [.tmp 2], D88⟩
theorem isNaN_pc (x : Int) (H : Hp) : PC Try.prog 88 [.int .i64 x] H fun _ v => v = .bool false := by
  refine PC.enter [.c (.v (.int .i64 x))] Try.func88 C88b rfl 6 Try.ntmps88 (by simp) fun w hw => ?_
  refine ops_open fun oW oA oS oM oBa oBo oBx oBn oE oN oL oLe oAnd oOr oNot oBq oSq oMx oMn oC oSz oAd oIx oQu oRe oSl oSr hO => ?_
  refine run_sound (E := E88 ⟨oW, oA, oS, oM, oBa, oBo, oBx, oBn, oE, oN, oL, oLe, oAnd, oOr, oNot, oBq, oSq, oMx, oMn, oC, oSz, oAd, oIx, oQu, oRe, oSl, oSr⟩ H) TEok hO Tm D88ok (PanicOk.body _ _ _) (Hp.le_refl _) 4000 _ _ ?_
  conv => arg 5; cbv
  simp only [Res.ok]
  refine RetG.pc TEok C88r rfl rfl rfl (fun _ => rfl) ?_
  obtain ⟨rfl, rfl, rfl, rfl, rfl, rfl, rfl, rfl, rfl, rfl, rfl, rfl, rfl, rfl, rfl, rfl, rfl, rfl, rfl, rfl, rfl, rfl, rfl, rfl, rfl, rfl, rfl⟩ := Ops.mk.inj hO
  show Value.bool (x != x) = _
  simp
def cmpI (x y : Int) : Int := if x < y then -1 else if y < x then 1 else 0
noncomputable def C66 : Code := fbody Try.f66
theorem C66b : Try.f66.body = some C66 := by kernel_rfl
theorem C66r : Try.f66.results.toList = [.tmp 4] := by kernel_rfl
def D66 : List (List Nat) := []
theorem D66ok : drOk C66 D66 = true := by kernel_rfl
noncomputable def E66 (O : Ops) (H : Hp) : Env := ⟨O, H, TE, C66, [.tmp 4], D66⟩
theorem Compare_pc (x y : Int) (H : Hp) : PC Try.prog 66 [.int .i64 x, .int .i64 y] H fun _ v => v = .int .i64 (cmpI x y) := by
  refine PC.enter [.c (.v (.int .i64 x)), .c (.v (.int .i64 y))] Try.func66 C66b rfl 20 Try.ntmps66 (by simp) fun w hw => ?_
  refine ops_open fun oW oA oS oM oBa oBo oBx oBn oE oN oL oLe oAnd oOr oNot oBq oSq oMx oMn oC oSz oAd oIx oQu oRe oSl oSr hO => ?_
  refine run_sound (E := E66 ⟨oW, oA, oS, oM, oBa, oBo, oBx, oBn, oE, oN, oL, oLe, oAnd, oOr, oNot, oBq, oSq, oMx, oMn, oC, oSz, oAd, oIx, oQu, oRe, oSl, oSr⟩ H) TEok hO Tm D66ok (PanicOk.body _ _ _) (Hp.le_refl _) 4000 _ _ ?_
  conv => arg 5; cbv
  simp only [Res.ok]
  refine EvG.pure Try.call88 (fun _ => rfl) (isNaN_pc x H) ?_
  rintro H1 v hle1 rfl
  refine ⟨.kb false, _, fun _ => rfl, rfl, ?_⟩
  refine run_sound (E := E66 ⟨oW, oA, oS, oM, oBa, oBo, oBx, oBn, oE, oN, oL, oLe, oAnd, oOr, oNot, oBq, oSq, oMx, oMn, oC, oSz, oAd, oIx, oQu, oRe, oSl, oSr⟩ H1) TEok hO Tm D66ok (PanicOk.body _ _ _) (Hp.le_refl _) 4000 _ _ ?_
  conv => arg 5; cbv
  simp only [Res.ok]
  refine EvG.pure Try.call88 (fun _ => rfl) (isNaN_pc y H1) ?_
  rintro H2 v hle2 rfl
  refine ⟨.kb false, _, fun _ => rfl, rfl, ?_⟩
  refine run_sound (E := E66 ⟨oW, oA, oS, oM, oBa, oBo, oBx, oBn, oE, oN, oL, oLe, oAnd, oOr, oNot, oBq, oSq, oMx, oMn, oC, oSz, oAd, oIx, oQu, oRe, oSl, oSr⟩ H2) TEok hO Tm D66ok (PanicOk.body _ _ _) (Hp.le_refl _) 4000 _ _ ?_
  conv => arg 5; cbv
  simp only [Res.ok]
  refine ⟨fun h1 => ?_, fun h1 => ⟨fun h2 => ?_, fun h2 => ?_⟩⟩
  · refine RetG.pc TEok C66r rfl rfl rfl (fun _ => rfl) ?_
    obtain ⟨rfl, rfl, rfl, rfl, rfl, rfl, rfl, rfl, rfl, rfl, rfl, rfl, rfl, rfl, rfl, rfl, rfl, rfl, rfl, rfl, rfl, rfl, rfl, rfl, rfl, rfl, rfl⟩ := Ops.mk.inj hO
    have h1 : x < y := by simpa [Ops.std] using h1
    simp only [cmpI, if_pos h1]
    rfl
  · refine RetG.pc TEok C66r rfl rfl rfl (fun _ => rfl) ?_
    obtain ⟨rfl, rfl, rfl, rfl, rfl, rfl, rfl, rfl, rfl, rfl, rfl, rfl, rfl, rfl, rfl, rfl, rfl, rfl, rfl, rfl, rfl, rfl, rfl, rfl, rfl, rfl, rfl⟩ := Ops.mk.inj hO
    have h1 : ¬ x < y := by simpa [Ops.std] using h1
    have h2 : y < x := by simpa [Ops.std] using h2
    simp only [cmpI, if_neg h1, if_pos h2]
    rfl
  · refine RetG.pc TEok C66r rfl rfl rfl (fun _ => rfl) ?_
    obtain ⟨rfl, rfl, rfl, rfl, rfl, rfl, rfl, rfl, rfl, rfl, rfl, rfl, rfl, rfl, rfl, rfl, rfl, rfl, rfl, rfl, rfl, rfl, rfl, rfl, rfl, rfl, rfl⟩ := Ops.mk.inj hO
    have h1 : ¬ x < y := by simpa [Ops.std] using h1
    have h2 : ¬ y < x := by simpa [Ops.std] using h2
    simp only [cmpI, if_neg h1, if_neg h2]
    rfl
noncomputable def C65 : Code := fbody Try.f65
theorem C65b : Try.f65.body = some C65 := by kernel_rfl
theorem C65r : Try.f65.results.toList = [.tmp 2] := by kernel_rfl
def D65 : List (List Nat) := []
theorem D65ok : drOk C65 D65 = true := by kernel_rfl
noncomputable def E65 (O : Ops) (H : Hp) : Env := ⟨O, H, TE, C65, [.tmp 2], D65⟩
theorem Or_pc (ad : Addr) (x y : Int) (H : Hp) (e1 : hat H ad 0 = some (.int .i64 x)) (e2 : hat H ad 1 = some (.int .i64 y)) : PC Try.prog 65 [.slice (some ad) 2 2] H fun _ v => v = .int .i64 (if x = 0 then y else x) := by
  refine PC.enter [.c (.v (.slice (some ad) 2 2))] Try.func65 C65b rfl 18 Try.ntmps65 (by simp) fun w hw => ?_
  refine ops_open fun oW oA oS oM oBa oBo oBx oBn oE oN oL oLe oAnd oOr oNot oBq oSq oMx oMn oC oSz oAd oIx oQu oRe oSl oSr hO => ?_
  refine run_sound (E := E65 ⟨oW, oA, oS, oM, oBa, oBo, oBx, oBn, oE, oN, oL, oLe, oAnd, oOr, oNot, oBq, oSq, oMx, oMn, oC, oSz, oAd, oIx, oQu, oRe, oSl, oSr⟩ H) TEok hO Tm D65ok (PanicOk.body _ _ _) (Hp.le_refl _) 4000 _ _ ?_
  conv => arg 5; cbv
  simp only [Res.ok]
  have a01 : oA .i64 0 1 = 1 := by
    obtain ⟨rfl, rfl, rfl, rfl, rfl, rfl, rfl, rfl, rfl, rfl, rfl, rfl, rfl, rfl, rfl, rfl, rfl, rfl, rfl, rfl, rfl, rfl, rfl, rfl, rfl, rfl, rfl⟩ := Ops.mk.inj hO
    rfl
  have a12 : oA .i64 1 1 = 2 := by
    obtain ⟨rfl, rfl, rfl, rfl, rfl, rfl, rfl, rfl, rfl, rfl, rfl, rfl, rfl, rfl, rfl, rfl, rfl, rfl, rfl, rfl, rfl, rfl, rfl, rfl, rfl, rfl, rfl⟩ := Ops.mk.inj hO
    rfl
  have l0 : oL 0 (oC 2) = true := by
    obtain ⟨rfl, rfl, rfl, rfl, rfl, rfl, rfl, rfl, rfl, rfl, rfl, rfl, rfl, rfl, rfl, rfl, rfl, rfl, rfl, rfl, rfl, rfl, rfl, rfl, rfl, rfl, rfl⟩ := Ops.mk.inj hO
    rfl
  have l1 : oL 1 (oC 2) = true := by
    obtain ⟨rfl, rfl, rfl, rfl, rfl, rfl, rfl, rfl, rfl, rfl, rfl, rfl, rfl, rfl, rfl, rfl, rfl, rfl, rfl, rfl, rfl, rfl, rfl, rfl, rfl, rfl, rfl⟩ := Ops.mk.inj hO
    rfl
  have l2 : oL 2 (oC 2) = false := by
    obtain ⟨rfl, rfl, rfl, rfl, rfl, rfl, rfl, rfl, rfl, rfl, rfl, rfl, rfl, rfl, rfl, rfl, rfl, rfl, rfl, rfl, rfl, rfl, rfl, rfl, rfl, rfl, rfl⟩ := Ops.mk.inj hO
    rfl
  have ne : ∀ a b : Int, (oN a b = true ↔ a ≠ b) := by
    obtain ⟨rfl, rfl, rfl, rfl, rfl, rfl, rfl, rfl, rfl, rfl, rfl, rfl, rfl, rfl, rfl, rfl, rfl, rfl, rfl, rfl, rfl, rfl, rfl, rfl, rfl, rfl, rfl⟩ := Ops.mk.inj hO
    intro a b
    simp [Ops.std]
  have sp := hat_spot e1
  refine LoopG.mk [3, 6, 7, 8] (fun i : Int × Nat => i = (0, 2) ∨ i = (1, 1) ∧ x = 0 ∨ i = (2, 0) ∧ x = 0 ∧ y = 0)
    (fun i => { n := 18, t := [(3, iV 0), (6, SlV (some ad) 2 2), (7, iV (oC 2)), (8, iV i.1)], g := [], bx := [] }) (fun _ => Gh.start w H) (fun i => i.2) (0, 2) rfl ⟨_, rfl⟩ (.inl rfl) rfl rfl ?_
  rintro i (rfl | ⟨rfl, hx⟩ | ⟨rfl, hx, hy⟩)
  · refine run_sound (E := E65 ⟨oW, oA, oS, oM, oBa, oBo, oBx, oBn, oE, oN, oL, oLe, oAnd, oOr, oNot, oBq, oSq, oMx, oMn, oC, oSz, oAd, oIx, oQu, oRe, oSl, oSr⟩ H) TEok hO Tm D65ok (PanicOk.lq (PanicOk.body _ _ _)) (Hp.le_refl _) 4000 _ _ ?_
    conv => arg 5; cbv
    simp only [Res.ok]
    refine ⟨fun _ => ?_, fun hh => (by rw [l0] at hh; cases hh)⟩
    refine ⟨by decide, by decide, ad, rfl, fun pa hpa => ⟨_, rfl, ?_⟩⟩
    have hp : hat H pa 0 = some (.int .i64 x) := by rw [hpa, hat_add sp]; exact e1
    refine run_sound (E := E65 ⟨oW, oA, oS, oM, oBa, oBo, oBx, oBn, oE, oN, oL, oLe, oAnd, oOr, oNot, oBq, oSq, oMx, oMn, oC, oSz, oAd, oIx, oQu, oRe, oSl, oSr⟩ H) TEok hO Tm D65ok (PanicOk.lq (PanicOk.body _ _ _)) (Hp.le_refl _) 4000 _ _ ?_
    conv => arg 5; cbv
    simp only [Res.ok]
    refine ⟨[_], rfl, fun j v hv => ?_, .inr ⟨rfl, .int .i64 x, _, rfl, rfl, ?_⟩⟩
    · cases j with
      | zero => simp at hv; subst hv; exact hp
      | succ j => simp at hv
    refine run_sound (E := E65 ⟨oW, oA, oS, oM, oBa, oBo, oBx, oBn, oE, oN, oL, oLe, oAnd, oOr, oNot, oBq, oSq, oMx, oMn, oC, oSz, oAd, oIx, oQu, oRe, oSl, oSr⟩ H) TEok hO Tm D65ok (PanicOk.lq (PanicOk.body _ _ _)) (Hp.le_refl _) 4000 _ _ ?_
    conv => arg 5; cbv
    simp only [Res.ok]
    refine ⟨fun hh => ?_, fun hh => ?_⟩
    · refine RetG.loop (RetG.pc TEok C65r rfl rfl rfl (fun _ => rfl) ?_)
      rw [if_neg ((ne _ _).1 hh)]
      rfl
    · rw [a01]
      have hx : x = 0 := by
        apply Classical.byContradiction
        intro hc
        rw [(ne _ _).2 hc] at hh; cases hh
      exact FinG.round [3, 6, 7, 8] (1, 1) (.inr (.inl ⟨rfl, hx⟩)) (by show (1 : Nat) < 2; decide) rfl rfl
  · refine run_sound (E := E65 ⟨oW, oA, oS, oM, oBa, oBo, oBx, oBn, oE, oN, oL, oLe, oAnd, oOr, oNot, oBq, oSq, oMx, oMn, oC, oSz, oAd, oIx, oQu, oRe, oSl, oSr⟩ H) TEok hO Tm D65ok (PanicOk.lq (PanicOk.body _ _ _)) (Hp.le_refl _) 4000 _ _ ?_
    conv => arg 5; cbv
    simp only [Res.ok]
    refine ⟨fun _ => ?_, fun hh => (by rw [l1] at hh; cases hh)⟩
    refine ⟨by decide, by decide, ad, rfl, fun pa hpa => ⟨_, rfl, ?_⟩⟩
    have hp : hat H pa 0 = some (.int .i64 y) := by rw [hpa, hat_add sp]; exact e2
    refine run_sound (E := E65 ⟨oW, oA, oS, oM, oBa, oBo, oBx, oBn, oE, oN, oL, oLe, oAnd, oOr, oNot, oBq, oSq, oMx, oMn, oC, oSz, oAd, oIx, oQu, oRe, oSl, oSr⟩ H) TEok hO Tm D65ok (PanicOk.lq (PanicOk.body _ _ _)) (Hp.le_refl _) 4000 _ _ ?_
    conv => arg 5; cbv
    simp only [Res.ok]
    refine ⟨[_], rfl, fun j v hv => ?_, .inr ⟨rfl, .int .i64 y, _, rfl, rfl, ?_⟩⟩
    · cases j with
      | zero => simp at hv; subst hv; exact hp
      | succ j => simp at hv
    refine run_sound (E := E65 ⟨oW, oA, oS, oM, oBa, oBo, oBx, oBn, oE, oN, oL, oLe, oAnd, oOr, oNot, oBq, oSq, oMx, oMn, oC, oSz, oAd, oIx, oQu, oRe, oSl, oSr⟩ H) TEok hO Tm D65ok (PanicOk.lq (PanicOk.body _ _ _)) (Hp.le_refl _) 4000 _ _ ?_
    conv => arg 5; cbv
    simp only [Res.ok]
    refine ⟨fun hh => ?_, fun hh => ?_⟩
    · refine RetG.loop (RetG.pc TEok C65r rfl rfl rfl (fun _ => rfl) ?_)
      rw [if_pos hx]
      rfl
    · rw [a12]
      have hy : y = 0 := by
        apply Classical.byContradiction
        intro hc
        rw [(ne _ _).2 hc] at hh; cases hh
      exact FinG.round [3, 6, 7, 8] (2, 0) (.inr (.inr ⟨rfl, hx, hy⟩)) (by show (0 : Nat) < 1; decide) rfl rfl
  · refine run_sound (E := E65 ⟨oW, oA, oS, oM, oBa, oBo, oBx, oBn, oE, oN, oL, oLe, oAnd, oOr, oNot, oBq, oSq, oMx, oMn, oC, oSz, oAd, oIx, oQu, oRe, oSl, oSr⟩ H) TEok hO Tm D65ok (PanicOk.lq (PanicOk.body _ _ _)) (Hp.le_refl _) 4000 _ _ ?_
    conv => arg 5; cbv
    simp only [Res.ok]
    refine ⟨fun hh => (by rw [l2] at hh; cases hh), fun _ => ?_⟩
    refine FinG.leave rfl rfl ?_
    refine run_sound (E := E65 ⟨oW, oA, oS, oM, oBa, oBo, oBx, oBn, oE, oN, oL, oLe, oAnd, oOr, oNot, oBq, oSq, oMx, oMn, oC, oSz, oAd, oIx, oQu, oRe, oSl, oSr⟩ H) TEok hO Tm D65ok (PanicOk.body _ _ _) (Hp.le_refl _) 4000 _ _ ?_
    conv => arg 5; cbv
    simp only [Res.ok]
    refine RetG.pc TEok C65r rfl rfl rfl (fun _ => rfl) ?_
    rw [if_pos hx, hy]
    rfl

def LV.newer (l : LV) (last term : Int) : Bool := decide (0 ≤ (if cmpI term (l.term l.lastW).1 = 0 then cmpI last l.lastW else cmpI term (l.term l.lastW).1))
noncomputable def C39 : Code := fbody Try.f39
theorem C39b : Try.f39.body = some C39 := by kernel_rfl
theorem C39r : Try.f39.results.toList = [.tmp 6] := by kernel_rfl
def D39 : List (List Nat) := [[0, 1], [0, 1, 1]]
theorem D39ok : drOk C39 D39 = true := by kernel_rfl
noncomputable def E39 (O : Ops) (H : Hp) : Env := ⟨O, H, TE, C39, [.tmp 6], D39⟩
theorem Newer_pc (l : LV) (last term : Int) (H : Hp) (hl : l.ok H) : PC Try.prog 39 [aggV l.cs, .int .i64 last, .int .i64 term] H fun _ v => v = .bool (l.newer last term) := by
  obtain ⟨nw, hnw⟩ : ∃ nw, l.newer last term = nw := ⟨_, rfl⟩
  rw [hnw]
  unfold LV.newer at hnw
  have hL := Last_pc l H
  obtain ⟨lw, hlw⟩ : ∃ lw, l.lastW = lw := ⟨_, rfl⟩
  rw [hlw] at hL hnw
  have hT := fun H' (h : Hp.le H H') => Term_pc l lw H' (hl.mono h)
  have hL2 := fun H' => Last_pc l H'
  rw [hlw] at hL2
  obtain ⟨⟨ot, ob⟩, hot⟩ : ∃ ot, l.term lw = ot := ⟨_, rfl⟩
  rw [hot] at hT hnw
  simp only at hT hnw
  obtain ⟨p1, hp1⟩ : ∃ p1, cmpI term ot = p1 := ⟨_, rfl⟩
  obtain ⟨p2, hp2⟩ : ∃ p2, cmpI last lw = p2 := ⟨_, rfl⟩
  rw [hp1, hp2] at hnw
  obtain ⟨p3, hp3⟩ : ∃ p3, (if p1 = 0 then p2 else p1) = p3 := ⟨_, rfl⟩
  rw [hp3] at hnw
  obtain ⟨b, bt, ⟨⟨a0, a1, a2, a3, a4⟩, ⟨b0, b1, b2, b3, b4⟩, two⟩, A, n, c, es⟩ := l
  refine PC.enter [aggT (LV.cs ⟨b, bt, ⟨⟨a0, a1, a2, a3, a4⟩, ⟨b0, b1, b2, b3, b4⟩, two⟩, A, n, c, es⟩), .c (.v (.int .i64 last)), .c (.v (.int .i64 term))] Try.func39 C39b rfl 26 Try.ntmps39 (by simp) fun w hw => ?_
  refine ops_open fun oW oA oS oM oBa oBo oBx oBn oE oN oL oLe oAnd oOr oNot oBq oSq oMx oMn oC oSz oAd oIx oQu oRe oSl oSr hO => ?_
  refine run_sound (E := E39 ⟨oW, oA, oS, oM, oBa, oBo, oBx, oBn, oE, oN, oL, oLe, oAnd, oOr, oNot, oBq, oSq, oMx, oMn, oC, oSz, oAd, oIx, oQu, oRe, oSl, oSr⟩ H) TEok hO Tm D39ok (PanicOk.body _ _ _) (Hp.le_refl _) 4000 _ _ ?_
  conv => arg 5; cbv
  simp only [Res.ok]
  refine EvG.pure Try.call15 (fun _ => rfl) hL ?_
  rintro H1 v hle1 rfl
  refine ⟨.t (.c (.v (.int .i64 lw))), _, fun _ => rfl, rfl, ?_⟩
  refine run_sound (E := E39 ⟨oW, oA, oS, oM, oBa, oBo, oBx, oBn, oE, oN, oL, oLe, oAnd, oOr, oNot, oBq, oSq, oMx, oMn, oC, oSz, oAd, oIx, oQu, oRe, oSl, oSr⟩ H1) TEok hO Tm D39ok (PanicOk.body _ _ _) (Hp.le_refl _) 4000 _ _ ?_
  conv => arg 5; cbv
  simp only [Res.ok]
  refine EvG.pure Try.call17 (fun _ => rfl) (hT H1 hle1) ?_
  rintro H2 v hle2 rfl
  refine ⟨.tup [.c (.v (.int .i64 ot)), .c (.v (.bool ob))], _, fun _ => ⟨_, rfl, rfl⟩, rfl, ?_⟩
  refine run_sound (E := E39 ⟨oW, oA, oS, oM, oBa, oBo, oBx, oBn, oE, oN, oL, oLe, oAnd, oOr, oNot, oBq, oSq, oMx, oMn, oC, oSz, oAd, oIx, oQu, oRe, oSl, oSr⟩ H2) TEok hO Tm D39ok (PanicOk.body _ _ _) (Hp.le_refl _) 4000 _ _ ?_
  conv => arg 5; cbv
  simp only [Res.ok]
  refine EvG.pure Try.call66 (fun _ => rfl) (Compare_pc term ot H2) ?_
  rintro H3 v hle3 rfl
  rw [hp1]
  refine ⟨.t (.c (.v (.int .i64 p1))), _, fun _ => rfl, rfl, ?_⟩
  refine run_sound (E := E39 ⟨oW, oA, oS, oM, oBa, oBo, oBx, oBn, oE, oN, oL, oLe, oAnd, oOr, oNot, oBq, oSq, oMx, oMn, oC, oSz, oAd, oIx, oQu, oRe, oSl, oSr⟩ H3) TEok hO Tm D39ok (PanicOk.body _ _ _) (Hp.le_refl _) 4000 _ _ ?_
  conv => arg 5; cbv
  simp only [Res.ok]
  refine EvG.pure Try.call15 (fun _ => rfl) (hL2 H3) ?_
  rintro H4 v hle4 rfl
  refine ⟨.t (.c (.v (.int .i64 lw))), _, fun _ => rfl, rfl, ?_⟩
  refine run_sound (E := E39 ⟨oW, oA, oS, oM, oBa, oBo, oBx, oBn, oE, oN, oL, oLe, oAnd, oOr, oNot, oBq, oSq, oMx, oMn, oC, oSz, oAd, oIx, oQu, oRe, oSl, oSr⟩ H4) TEok hO Tm D39ok (PanicOk.body _ _ _) (Hp.le_refl _) 4000 _ _ ?_
  conv => arg 5; cbv
  simp only [Res.ok]
  refine EvG.pure Try.call66 (fun _ => rfl) (Compare_pc last lw H4) ?_
  rintro H5 v hle5 rfl
  rw [hp2]
  refine ⟨.t (.c (.v (.int .i64 p2))), _, fun _ => rfl, rfl, ?_⟩
  refine run_sound (E := E39 ⟨oW, oA, oS, oM, oBa, oBo, oBx, oBn, oE, oN, oL, oLe, oAnd, oOr, oNot, oBq, oSq, oMx, oMn, oC, oSz, oAd, oIx, oQu, oRe, oSl, oSr⟩ H5) TEok hO Tm D39ok (PanicOk.body _ _ _) (Hp.le_refl _) 4000 _ _ ?_
  conv => arg 5; cbv
  simp only [Res.ok]
  refine fun hit => ⟨[.int .i64 p1, .int .i64 p2], rfl, fun bb hbb => ⟨_, rfl, ?_⟩⟩
  have hg0 : hat (H5.add bb 0 [.int .i64 p1, .int .i64 p2]) ⟨bb, 0, none⟩ 0 = some (.int .i64 p1) := Hp.add_at (H := H5) (b := bb) (o := 0) (vs := [.int .i64 p1, .int .i64 p2]) (j := 0) rfl
  have hg1 : hat (H5.add bb 0 [.int .i64 p1, .int .i64 p2]) ⟨bb, 0, none⟩ 1 = some (.int .i64 p2) := Hp.add_at (H := H5) (b := bb) (o := 0) (vs := [.int .i64 p1, .int .i64 p2]) (j := 1) rfl
  refine run_sound (E := E39 ⟨oW, oA, oS, oM, oBa, oBo, oBx, oBn, oE, oN, oL, oLe, oAnd, oOr, oNot, oBq, oSq, oMx, oMn, oC, oSz, oAd, oIx, oQu, oRe, oSl, oSr⟩ (H5.add bb 0 [.int .i64 p1, .int .i64 p2])) TEok hO Tm D39ok (PanicOk.body _ _ _) (Hp.le_refl _) 4000 _ _ ?_
  conv => arg 5; cbv
  simp only [Res.ok]
  refine EvG.pure Try.call65 (fun _ => rfl) (Or_pc ⟨bb, 0, none⟩ p1 p2 _ hg0 hg1) ?_
  rintro H6 v hle6 rfl
  rw [hp3]
  refine ⟨.t (.c (.v (.int .i64 p3))), _, fun _ => rfl, rfl, ?_⟩
  refine run_sound (E := E39 ⟨oW, oA, oS, oM, oBa, oBo, oBx, oBn, oE, oN, oL, oLe, oAnd, oOr, oNot, oBq, oSq, oMx, oMn, oC, oSz, oAd, oIx, oQu, oRe, oSl, oSr⟩ H6) TEok hO Tm D39ok (PanicOk.body _ _ _) (Hp.le_refl _) 4000 _ _ ?_
  conv => arg 5; cbv
  simp only [Res.ok]
  refine RetG.pc TEok C39r rfl rfl rfl (fun _ => rfl) ?_
  obtain ⟨rfl, rfl, rfl, rfl, rfl, rfl, rfl, rfl, rfl, rfl, rfl, rfl, rfl, rfl, rfl, rfl, rfl, rfl, rfl, rfl, rfl, rfl, rfl, rfl, rfl, rfl, rfl⟩ := Ops.mk.inj hO
  rw [← hnw]
  rfl
end Go.Sx
