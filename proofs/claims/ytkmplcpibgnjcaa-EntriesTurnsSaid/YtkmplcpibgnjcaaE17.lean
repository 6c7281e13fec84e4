/- Contracts: the reference's At; alike. -/
import Derived.Test.YtkmplcpibgnjcaaE14
namespace Go.Sx
open Go.Proofs Go.RowKit

noncomputable def C34 : Code := fbody Try.f34
theorem C34b : Try.f34.body = some C34 := by kernel_rfl
theorem C34r : Try.f34.results.toList = [.cell 4 47, .tmp 5] := by kernel_rfl
def D34 : List (List Nat) := []
theorem D34ok : drOk C34 D34 = true := by kernel_rfl
noncomputable def E34 (O : Ops) (H : Hp) : Env := ⟨O, H, TE, C34, [.cell 4 47, .tmp 5], D34⟩
set_option maxRecDepth 100000 in
theorem rAt_pc (l : LV) (i : Int) (H : Hp) (hl : l.ok H) (hf : l.fine) (hi : In64 i) : PC Try.prog 34 [aggV l.cs, .int .i64 i] H fun _ v => v = .tuple #[aggV (l.at i).1.cs, .bool (l.at i).2] := by
  have hat := LV.at_some hf hi
  have cL := fun H' => rLast_pc l H'
  have hlw := LV.lastW_eq hf
  obtain ⟨lw, hw⟩ : ∃ x, l.lastW = x := ⟨_, rfl⟩
  rw [hw] at cL hlw
  obtain ⟨g1, g2, g3⟩ := id hf
  obtain ⟨i1, i2⟩ := hi
  refine PC.enter [aggT l.cs, .c (.v (.int .i64 i))] Try.func34 C34b rfl 26 Try.ntmps34 (by simp) fun w hw => ?_
  refine ops_open fun oW oA oS oM oBa oBo oBx oBn oE oN oL oLe oAnd oOr oNot oBq oSq oMx oMn oC oSz oAd oIx oQu oRe oSl oSr hO => ?_
  refine run_sound (E := E34 ⟨oW, oA, oS, oM, oBa, oBo, oBx, oBn, oE, oN, oL, oLe, oAnd, oOr, oNot, oBq, oSq, oMx, oMn, oC, oSz, oAd, oIx, oQu, oRe, oSl, oSr⟩ _) TEok hO Tm D34ok (PanicOk.body _ _ _) (Hp.le_refl _) 4000 _ _ ?_
  conv => arg 5; cbv
  simp only [Res.ok]
  refine ⟨fun h1 => ?_, fun h1 => ?_⟩
  · refine RetG.pc TEok C34r rfl rfl rfl (fun _ => rfl) ?_
    have h1 : i ≤ l.b := by
      obtain ⟨rfl, rfl, rfl, rfl, rfl, rfl, rfl, rfl, rfl, rfl, rfl, rfl, rfl, rfl, rfl, rfl, rfl, rfl, rfl, rfl, rfl, rfl, rfl, rfl, rfl, rfl, rfl⟩ := Ops.mk.inj hO
      simpa [Ops.std] using h1
    rw [hat, if_neg (by omega)]
    rfl
  have h1 : ¬ i ≤ l.b := by
    obtain ⟨rfl, rfl, rfl, rfl, rfl, rfl, rfl, rfl, rfl, rfl, rfl, rfl, rfl, rfl, rfl, rfl, rfl, rfl, rfl, rfl, rfl, rfl, rfl, rfl, rfl, rfl, rfl⟩ := Ops.mk.inj hO
    simpa [Ops.std] using h1
  refine EvG.pure Try.call35 (fun _ => rfl) (cL _) ?_
  rintro H1 v hle1 rfl
  refine ⟨.t (.c (.v (.int .i64 lw))), _, fun _ => (by first | exact rfl | exact ⟨_, rfl, rfl⟩ | exact aggT_den _ _), rfl, ?_⟩
  refine run_sound (E := E34 ⟨oW, oA, oS, oM, oBa, oBo, oBx, oBn, oE, oN, oL, oLe, oAnd, oOr, oNot, oBq, oSq, oMx, oMn, oC, oSz, oAd, oIx, oQu, oRe, oSl, oSr⟩ _) TEok hO Tm D34ok (PanicOk.body _ _ _) (Hp.le_refl _) 4000 _ _ ?_
  conv => arg 5; cbv
  simp only [Res.ok]
  refine ⟨fun h2 => ?_, fun h2 => ?_⟩
  · refine RetG.pc TEok C34r rfl rfl rfl (fun _ => rfl) ?_
    have h2 : lw < i := by
      obtain ⟨rfl, rfl, rfl, rfl, rfl, rfl, rfl, rfl, rfl, rfl, rfl, rfl, rfl, rfl, rfl, rfl, rfl, rfl, rfl, rfl, rfl, rfl, rfl, rfl, rfl, rfl, rfl⟩ := Ops.mk.inj hO
      simpa [Ops.std] using h2
    rw [hat, if_neg (by omega)]
    rfl
  have h2 : ¬ lw < i := by
    obtain ⟨rfl, rfl, rfl, rfl, rfl, rfl, rfl, rfl, rfl, rfl, rfl, rfl, rfl, rfl, rfl, rfl, rfl, rfl, rfl, rfl, rfl, rfl, rfl, rfl, rfl, rfl, rfl⟩ := Ops.mk.inj hO
    simpa [Ops.std] using h2
  rw [if_pos (by omega)] at hat
  have hk : oS .i64 (oS .i64 i l.b) 1 = i - l.b - 1 := by
    obtain ⟨rfl, rfl, rfl, rfl, rfl, rfl, rfl, rfl, rfl, rfl, rfl, rfl, rfl, rfl, rfl, rfl, rfl, rfl, rfl, rfl, rfl, rfl, rfl, rfl, rfl, rfl, rfl⟩ := Ops.mk.inj hO
    show IntKind.i64.wrap (IntKind.i64.wrap (i - l.b) - 1) = _
    rw [w64 (n := i - l.b) (by omega) (by omega)]
    exact w64 (by omega) (by omega)
  change oS .i64 (oS .i64 i l.1) 1 = _ at hk
  rw [hk]
  obtain ⟨k, hkk⟩ : ∃ k, i - l.b - 1 = k := ⟨_, rfl⟩
  rw [hkk] at hat ⊢
  obtain ⟨e, ad, he, hA, hg⟩ := row_at (SVok.lv hl) (k := k) (by omega) (by omega)
  rw [he] at hat
  refine ⟨by omega, by show k < (l.n : Int); omega, ad, hA, fun pa hpa => ⟨_, rfl, ?_⟩⟩
  have hp := hg pa hpa
  refine run_sound (E := E34 ⟨oW, oA, oS, oM, oBa, oBo, oBx, oBn, oE, oN, oL, oLe, oAnd, oOr, oNot, oBq, oSq, oMx, oMn, oC, oSz, oAd, oIx, oQu, oRe, oSl, oSr⟩ _) TEok hO Tm D34ok (PanicOk.body _ _ _) (Hp.le_refl _) 4000 _ _ ?_
  conv => arg 5; cbv
  simp only [Res.ok]
  refine ⟨e.cs, rfl, fun j v hv => hat_mono hle1 (hp j v hv), .inl ⟨rfl, _, rfl, ?_⟩⟩
  refine run_sound (E := E34 ⟨oW, oA, oS, oM, oBa, oBo, oBx, oBn, oE, oN, oL, oLe, oAnd, oOr, oNot, oBq, oSq, oMx, oMn, oC, oSz, oAd, oIx, oQu, oRe, oSl, oSr⟩ _) TEok hO Tm D34ok (PanicOk.body _ _ _) (Hp.le_refl _) 4000 _ _ ?_
  conv => arg 5; cbv
  simp only [Res.ok]
  refine RetG.pc TEok C34r rfl rfl rfl (fun _ => rfl) ?_
  rw [hat]
  rfl

noncomputable def C31 : Code := fbody Try.f31
theorem C31b : Try.f31.body = some C31 := by kernel_rfl
theorem C31r : Try.f31.results.toList = [.tmp 4] := by kernel_rfl
def D31 : List (List Nat) := []
theorem D31ok : drOk C31 D31 = true := by kernel_rfl
noncomputable def E31 (O : Ops) (H : Hp) : Env := ⟨O, H, TE, C31, [.tmp 4], D31⟩
theorem alike_pc (l o : LV) (H : Hp) (hl : l.ok H) (ho : o.ok H) (hlf : l.fine) (hof : o.fine) (ho0 : o.b = 0) (hs : ∀ i, 1 ≤ i → i ≤ (o.n : Int) → (l.at i).2 = true ∧ (l.at i).1.term = (o.at i).1.term) :
    PC Try.prog 31 [aggV l.cs, aggV o.cs] H fun _ v => v = .bool true := by
  have cL := fun H' => rLast_pc o H'
  have hlw := LV.lastW_eq hof
  obtain ⟨lw, hw⟩ : ∃ x, o.lastW = x := ⟨_, rfl⟩
  rw [hw] at cL hlw
  obtain ⟨g1, g2, g3⟩ := id hof
  refine PC.enter [aggT l.cs, aggT o.cs] Try.func31 C31b rfl 37 Try.ntmps31 (by simp) fun w hw => ?_
  refine ops_open fun oW oA oS oM oBa oBo oBx oBn oE oN oL oLe oAnd oOr oNot oBq oSq oMx oMn oC oSz oAd oIx oQu oRe oSl oSr hO => ?_
  refine run_sound (E := E31 ⟨oW, oA, oS, oM, oBa, oBo, oBx, oBn, oE, oN, oL, oLe, oAnd, oOr, oNot, oBq, oSq, oMx, oMn, oC, oSz, oAd, oIx, oQu, oRe, oSl, oSr⟩ _) TEok hO Tm D31ok (PanicOk.body _ _ _) (Hp.le_refl _) 4000 _ _ ?_
  conv => arg 5; cbv
  simp only [Res.ok]
  refine LoopG.mk [2, 3, 5] (fun y : Nat × Hp => y.1 ≤ o.n ∧ Hp.le H y.2) (fun y => ⟨37, [(2, .t (.c (.p 0 0))), (3, .t (.c (.p 1 0))), (5, iV (1 + y.1))], [], [l.cs.map .v, o.cs.map .v]⟩)
    (fun y => (Gh.start w H).seth y.2) (fun y => o.n + 1 - y.1) (0, H) rfl ⟨_, rfl⟩ ⟨Nat.zero_le _, Hp.le_refl _⟩ rfl rfl ?_
  rintro ⟨j, HA⟩ ⟨hj, hleA⟩
  simp only at hj hleA ⊢
  obtain ⟨i, hi⟩ : ∃ i : Int, 1 + (j : Int) = i := ⟨_, rfl⟩
  rw [hi]
  refine run_sound (E := E31 ⟨oW, oA, oS, oM, oBa, oBo, oBx, oBn, oE, oN, oL, oLe, oAnd, oOr, oNot, oBq, oSq, oMx, oMn, oC, oSz, oAd, oIx, oQu, oRe, oSl, oSr⟩ _) TEok hO Tm D31ok (PanicOk.lq (PanicOk.body _ _ _)) (Hp.le_refl _) 4000 _ _ ?_
  conv => arg 5; cbv
  simp only [Res.ok]
  refine EvG.pure Try.call35 (fun _ => rfl) (cL _) ?_
  rintro HB v hleB rfl
  refine ⟨.t (.c (.v (.int .i64 lw))), _, fun _ => (by first | exact rfl | exact ⟨_, rfl, rfl⟩ | exact aggT_den _ _), rfl, ?_⟩
  refine run_sound (E := E31 ⟨oW, oA, oS, oM, oBa, oBo, oBx, oBn, oE, oN, oL, oLe, oAnd, oOr, oNot, oBq, oSq, oMx, oMn, oC, oSz, oAd, oIx, oQu, oRe, oSl, oSr⟩ _) TEok hO Tm D31ok (PanicOk.lq (PanicOk.body _ _ _)) (Hp.le_refl _) 4000 _ _ ?_
  conv => arg 5; cbv
  simp only [Res.ok]
  refine ⟨fun hh => ?_, fun hh => ?_⟩
  · have hin : i ≤ lw := by
      obtain ⟨rfl, rfl, rfl, rfl, rfl, rfl, rfl, rfl, rfl, rfl, rfl, rfl, rfl, rfl, rfl, rfl, rfl, rfl, rfl, rfl, rfl, rfl, rfl, rfl, rfl, rfl, rfl⟩ := Ops.mk.inj hO
      simpa [Ops.std] using hh
    obtain ⟨s1, s2⟩ := hs i (by omega) (by omega)
    have hcB := Hp.le_trans hleA hleB
    have aL := rAt_pc l i HB (hl.mono hcB) hlf ⟨by omega, by omega⟩
    have aO := fun (H' : Hp) (h : Hp.le HB H') => rAt_pc o i H' ((ho.mono hcB).mono h) hof ⟨by omega, by omega⟩
    obtain ⟨⟨e1, b1⟩, h1⟩ : ∃ y, l.at i = y := ⟨_, rfl⟩
    obtain ⟨⟨e2, b2⟩, h2⟩ : ∃ y, o.at i = y := ⟨_, rfl⟩
    rw [h1] at aL s1 s2
    rw [h2] at aO s2
    simp only at s1 s2
    subst s1
    have hi1 : oA .i64 i 1 = 1 + ((j + 1 : Nat) : Int) := by
      obtain ⟨rfl, rfl, rfl, rfl, rfl, rfl, rfl, rfl, rfl, rfl, rfl, rfl, rfl, rfl, rfl, rfl, rfl, rfl, rfl, rfl, rfl, rfl, rfl, rfl, rfl, rfl, rfl⟩ := Ops.mk.inj hO
      rw [show 1 + ((j + 1 : Nat) : Int) = i + 1 by omega]
      exact w64 (by omega) (by omega)
    refine EvG.pure Try.call34 (fun _ => rfl) (aL) ?_
    rintro HC v hleC rfl
    refine ⟨.tup [aggT e1.cs, .c (.v (.bool true))], _, fun _ => (by first | exact rfl | exact ⟨_, rfl, rfl⟩ | exact aggT_den _ _), rfl, ?_⟩
    refine run_sound (E := E31 ⟨oW, oA, oS, oM, oBa, oBo, oBx, oBn, oE, oN, oL, oLe, oAnd, oOr, oNot, oBq, oSq, oMx, oMn, oC, oSz, oAd, oIx, oQu, oRe, oSl, oSr⟩ _) TEok hO Tm D31ok (PanicOk.lq (PanicOk.body _ _ _)) (Hp.le_refl _) 4000 _ _ ?_
    conv => arg 5; cbv
    simp only [Res.ok]
    refine EvG.pure Try.call34 (fun _ => rfl) (aO _ hleC) ?_
    rintro HD v hleD rfl
    refine ⟨.tup [aggT e2.cs, .c (.v (.bool b2))], _, fun _ => (by first | exact rfl | exact ⟨_, rfl, rfl⟩ | exact aggT_den _ _), rfl, ?_⟩
    refine run_sound (E := E31 ⟨oW, oA, oS, oM, oBa, oBo, oBx, oBn, oE, oN, oL, oLe, oAnd, oOr, oNot, oBq, oSq, oMx, oMn, oC, oSz, oAd, oIx, oQu, oRe, oSl, oSr⟩ _) TEok hO Tm D31ok (PanicOk.lq (PanicOk.body _ _ _)) (Hp.le_refl _) 4000 _ _ ?_
    conv => arg 5; cbv
    simp only [Res.ok]
    refine ⟨fun hh2 => ?_, fun _ => ?_⟩
    · exfalso
      revert hh2
      obtain ⟨rfl, rfl, rfl, rfl, rfl, rfl, rfl, rfl, rfl, rfl, rfl, rfl, rfl, rfl, rfl, rfl, rfl, rfl, rfl, rfl, rfl, rfl, rfl, rfl, rfl, rfl, rfl⟩ := Ops.mk.inj hO
      simp [Ops.std]
      exact s2
    rw [hi1]
    exact FinG.roundB [2, 3, 5] 2 (j + 1, HD) ⟨by simp only; omega, Hp.le_trans hcB (Hp.le_trans hleC hleD)⟩ (by simp only; omega) rfl rfl rfl rfl
  refine FinG.leave rfl rfl ?_
  refine run_sound (E := E31 ⟨oW, oA, oS, oM, oBa, oBo, oBx, oBn, oE, oN, oL, oLe, oAnd, oOr, oNot, oBq, oSq, oMx, oMn, oC, oSz, oAd, oIx, oQu, oRe, oSl, oSr⟩ _) TEok hO Tm D31ok (PanicOk.body _ _ _) (Hp.le_refl _) 4000 _ _ ?_
  conv => arg 5; cbv
  simp only [Res.ok]
  exact RetG.pc TEok C31r rfl rfl rfl (fun _ => rfl) rfl
end Go.Sx
