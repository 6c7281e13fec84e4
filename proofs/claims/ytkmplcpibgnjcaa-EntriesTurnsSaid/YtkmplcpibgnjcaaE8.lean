/- Contracts: what begins each statement. -/
import Derived.Test.YtkmplcpibgnjcaaE7
namespace Go.Sx
open Go.Proofs Go.RowKit

theorem Rw.fresh {H : Hp} {bb k n : Nat} {vs : List Value} (hl : vs.length = n * k) : Rw (H.add bb 0 vs) k (some ⟨bb, 0, none⟩) n vs :=
  ⟨hl, fun j v hv => ⟨_, rfl, by simpa [hat] using Hp.add_at (H := H) (b := bb) (o := 0) hv⟩⟩
theorem SVok.fresh {H : Hp} {bb n c : Nat} {es : List Entry} (h : n = es.length) (hc : n ≤ c) : SVok (H.add bb 0 (flatE es)) (some ⟨bb, 0, none⟩) n c es :=
  SVok.of h hc (Rw.fresh (by rw [h]; simp [flatE, flatten_len (k := 14) Entry.lens]))
def en (t : Int) : Entry := ⟨t, 0, ⟨#[]⟩, .zero⟩
def log0 : LV := ⟨0, 0, .zero, none, 0, 0, []⟩
theorem log0_ok (H : Hp) : log0.ok H := ⟨rfl, Nat.le_refl _, fun i x hx => by simp [log0] at hx⟩
theorem log0_fine : log0.fine := ⟨by decide, by decide, by decide⟩
theorem begun_nb : ¬ mergeBad log0 0 0 [en 1, en 2] := by
  unfold mergeBad
  simp [log0, LV.term]
theorem begun_es : mergeEs log0 0 [en 1, en 2] = [en 1, en 2] := by
  have h := LV.term_is (l := log0) (i := 1) log0_fine ⟨by decide, by decide⟩
  have h : (log0.term 1).2 = false := by rw [h]; decide
  have e : mism log0 0 0 [en 1, en 2] = some 0 := by
    simp [mism, h]
  rw [mergeEs_hi (by decide), e]
  simp [log0]
noncomputable def C12 : Code := fbody Try.f12
theorem C12b : Try.f12.body = some C12 := by kernel_rfl
theorem C12r : Try.f12.results.toList = [.tmp 0] := by kernel_rfl
def D12 : List (List Nat) := []
theorem D12ok : drOk C12 D12 = true := by kernel_rfl
noncomputable def E12 (O : Ops) (H : Hp) : Env := ⟨O, H, TE, C12, [.tmp 0], D12⟩
theorem begun_pc (H : Hp) : PC Try.prog 12 [] H fun _ v => v = .bool true := by
  refine PC.enter [] Try.func12 C12b rfl 54 Try.ntmps12 (by simp) fun w hw => ?_
  refine ops_open fun oW oA oS oM oBa oBo oBx oBn oE oN oL oLe oAnd oOr oNot oBq oSq oMx oMn oC oSz oAd oIx oQu oRe oSl oSr hO => ?_
  refine run_sound (E := E12 ⟨oW, oA, oS, oM, oBa, oBo, oBx, oBn, oE, oN, oL, oLe, oAnd, oOr, oNot, oBq, oSq, oMx, oMn, oC, oSz, oAd, oIx, oQu, oRe, oSl, oSr⟩ H) TEok hO Tm D12ok (PanicOk.body _ _ _) (Hp.le_refl _) 4000 _ _ ?_
  conv => arg 5; cbv
  simp only [Res.ok]
  refine fun hit => ⟨flatE [en 1, en 2], rfl, fun bb hbb => ⟨_, rfl, ?_⟩⟩
  have hle : Hp.le H (H.add bb 0 (flatE [en 1, en 2])) := Hp.le_add fun o _ => hbb o
  have hsv : SVok (H.add bb 0 (flatE [en 1, en 2])) (some ⟨bb, 0, none⟩) 2 2 [en 1, en 2] := SVok.fresh rfl (by decide)
  have hM := Merge_pc log0 0 0 (some ⟨bb, 0, none⟩) 2 2 [en 1, en 2] _ (log0_ok _) log0_fine hsv ⟨by decide, by decide⟩ (by decide)
  refine run_sound (E := E12 ⟨oW, oA, oS, oM, oBa, oBo, oBx, oBn, oE, oN, oL, oLe, oAnd, oOr, oNot, oBq, oSq, oMx, oMn, oC, oSz, oAd, oIx, oQu, oRe, oSl, oSr⟩ (H.add bb 0 (flatE [en 1, en 2]))) TEok hO Tm D12ok (PanicOk.body _ _ _) (Hp.le_refl _) 4000 _ _ ?_
  conv => arg 5; cbv
  simp only [Res.ok]
  refine EvG.pure Try.call18 (fun _ => rfl) hM ?_
  rintro H2 v hle2 (⟨hb, _⟩ | ⟨_, ⟨b, bt, j, A, n, c, es⟩, rfl, hok, rfl, rfl, rfl, hes⟩)
  · exact absurd hb begun_nb
  rw [begun_es] at hes
  simp only at hes
  subst hes
  obtain rfl : n = 2 := hok.1
  obtain ⟨-, hc, hr⟩ := id hok
  have hlog : aggT (LV.cs ⟨log0.b, log0.bt, log0.j, A, [en 1, en 2].length, c, [en 1, en 2]⟩) = aggT (LV.cs ⟨0, 0, .zero, A, 2, c, [en 1, en 2]⟩) := rfl
  obtain ⟨L, hL⟩ : ∃ L : LV, L = ⟨0, 0, .zero, A, 2, c, [en 1, en 2]⟩ := ⟨_, rfl⟩
  have hLok : L.ok H2 := by rw [hL]; exact ⟨rfl, hc, hr⟩
  have hLf : L.fine := by rw [hL]; exact ⟨by show (0 : Int) ≤ 0; decide, by show (0 : Int) ≤ 1099511627776; decide, by show 2 ≤ 1048576; decide⟩
  have hC := Compact_pc L 1 H2 hLok hLf ⟨by decide, by decide⟩
  have hT1 : L.term 1 = (1, true) := by
    unfold LV.term
    rw [LV.at_some hLf ⟨by decide, by decide⟩, hL]
    rfl
  have hTw := LV.lastW_eq hLf
  have hT2 : L.term 2 = (2, true) := by
    unfold LV.term
    rw [LV.at_some hLf ⟨by decide, by decide⟩, hL]
    rfl
  unfold CompactR at hC
  rw [hT1] at hC
  simp only [if_true] at hC
  have hLl := fun H3 => Last_pc L H3
  have hN := fun H3 (hle : Hp.le H2 H3) => Newer_pc L 1 3 H3 (hLok.mono hle)
  have hnw : L.newer 1 3 = true := by
    unfold LV.newer
    rw [hTw]
    have : L.b + L.n = 2 := by rw [hL]; rfl
    rw [this, hT2]
    decide
  rw [hnw] at hN
  have hl2 : L.lastW = 2 := by rw [hTw, hL]; rfl
  rw [hl2] at hLl
  have hdr : L.es.drop (1 - L.b).toNat = [en 2] := by rw [hL]; rfl
  rw [hdr] at hC
  rw [hL] at hC hN hLl
  refine ⟨.tup [aggT (LV.cs ⟨0, 0, .zero, A, 2, c, [en 1, en 2]⟩), .c (.v (.int .i64 2)), .c (.v (.bool true))], _, fun _ => ⟨_, rfl, rfl⟩, rfl, ?_⟩
  refine run_sound (E := E12 ⟨oW, oA, oS, oM, oBa, oBo, oBx, oBn, oE, oN, oL, oLe, oAnd, oOr, oNot, oBq, oSq, oMx, oMn, oC, oSz, oAd, oIx, oQu, oRe, oSl, oSr⟩ H2) TEok hO Tm D12ok (PanicOk.body _ _ _) (Hp.le_refl _) 4000 _ _ ?_
  conv => arg 5; cbv
  simp only [Res.ok]
  refine EvG.pure Try.call14 (fun _ => rfl) hC ?_
  rintro H3 v hle3 ⟨⟨b, bt, j, A3, n3, c3, es3⟩, rfl, hok3, rfl, rfl, -, rfl⟩
  obtain rfl : n3 = 1 := hok3.1
  obtain ⟨⟨a0, a1, a2, a3, a4⟩, ⟨b0, b1, b2, b3, b4⟩, two⟩ := j
  refine ⟨.tup [aggT (LV.cs ⟨1, 1, ⟨⟨a0, a1, a2, a3, a4⟩, ⟨b0, b1, b2, b3, b4⟩, two⟩, A3, 1, c3, []⟩), .c (.v (.int .i64 0))], _, fun _ => ⟨_, rfl, rfl⟩, rfl, ?_⟩
  refine run_sound (E := E12 ⟨oW, oA, oS, oM, oBa, oBo, oBx, oBn, oE, oN, oL, oLe, oAnd, oOr, oNot, oBq, oSq, oMx, oMn, oC, oSz, oAd, oIx, oQu, oRe, oSl, oSr⟩ H3) TEok hO Tm D12ok (PanicOk.body _ _ _) (Hp.le_refl _) 4000 _ _ ?_
  conv => arg 5; cbv
  simp only [Res.ok]
  refine ⟨fun _ => ?_, fun hh => ?_⟩
  rotate_left
  · obtain ⟨rfl, rfl, rfl, rfl, rfl, rfl, rfl, rfl, rfl, rfl, rfl, rfl, rfl, rfl, rfl, rfl, rfl, rfl, rfl, rfl, rfl, rfl, rfl, rfl, rfl, rfl, rfl⟩ := Ops.mk.inj hO
    exact absurd hh (by decide)
  refine EvG.pure Try.call15 (fun _ => rfl) (hLl H3) ?_
  rintro H4 v hle4 rfl
  refine ⟨.t (.c (.v (.int .i64 2))), _, fun _ => rfl, rfl, ?_⟩
  refine run_sound (E := E12 ⟨oW, oA, oS, oM, oBa, oBo, oBx, oBn, oE, oN, oL, oLe, oAnd, oOr, oNot, oBq, oSq, oMx, oMn, oC, oSz, oAd, oIx, oQu, oRe, oSl, oSr⟩ H4) TEok hO Tm D12ok (PanicOk.body _ _ _) (Hp.le_refl _) 4000 _ _ ?_
  conv => arg 5; cbv
  simp only [Res.ok]
  refine ⟨fun _ => ?_, fun hh => ?_⟩
  rotate_left
  · obtain ⟨rfl, rfl, rfl, rfl, rfl, rfl, rfl, rfl, rfl, rfl, rfl, rfl, rfl, rfl, rfl, rfl, rfl, rfl, rfl, rfl, rfl, rfl, rfl, rfl, rfl, rfl, rfl⟩ := Ops.mk.inj hO
    exact absurd hh (by decide)
  refine EvG.pure Try.call39 (fun _ => rfl) (hN H4 (Hp.le_trans hle3 hle4)) ?_
  rintro H5 v hle5 rfl
  refine ⟨.t (.c (.v (.bool true))), _, fun _ => rfl, rfl, ?_⟩
  refine run_sound (E := E12 ⟨oW, oA, oS, oM, oBa, oBo, oBx, oBn, oE, oN, oL, oLe, oAnd, oOr, oNot, oBq, oSq, oMx, oMn, oC, oSz, oAd, oIx, oQu, oRe, oSl, oSr⟩ H5) TEok hO Tm D12ok (PanicOk.body _ _ _) (Hp.le_refl _) 4000 _ _ ?_
  conv => arg 5; cbv
  simp only [Res.ok]
  refine RetG.pc TEok C12r rfl rfl rfl (fun _ => rfl) ?_
  obtain ⟨rfl, rfl, rfl, rfl, rfl, rfl, rfl, rfl, rfl, rfl, rfl, rfl, rfl, rfl, rfl, rfl, rfl, rfl, rfl, rfl, rfl, rfl, rfl, rfl, rfl, rfl, rfl⟩ := Ops.mk.inj hO
  rfl
end Go.Sx
