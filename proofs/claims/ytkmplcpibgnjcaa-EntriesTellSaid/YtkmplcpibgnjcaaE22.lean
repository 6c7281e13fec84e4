/- The statement EntriesTell, walked. -/
import Derived.Test.YtkmplcpibgnjcaaE21
namespace Go.Sx
open Go.Proofs Go.RowKit

theorem MayL.fine {l : LV} (h : MayL l) (hn : l.n ≤ 1048576) : l.fine := ⟨h.1.1, h.1.2.1, hn⟩
noncomputable def C8 : Code := fbody Try.f8
theorem C8b : Try.f8.body = some C8 := by kernel_rfl
theorem C8r : Try.f8.results.toList = [.tmp 8] := by kernel_rfl
def D8 : List (List Nat) := [[0, 1, 1, 1, 1, 1, 1, 1, 1]]
theorem D8ok : drOk C8 D8 = true := by kernel_rfl
noncomputable def E8 (O : Ops) (H : Hp) : Env := ⟨O, H, TE, C8, [.tmp 8], D8⟩
set_option maxHeartbeats 1000000 in
set_option maxRecDepth 100000 in
theorem TellLaw_pc (l : LV) (i n term : Int) (H : Hp) (hl : l.ok H) (hi : In64 i) : PC Try.prog 8 [aggV l.cs, .int .i64 i, .int .i64 n, .int .i64 term] H fun _ v => v = .bool true := by
  refine PC.enter [aggT l.cs, .c (.v (.int .i64 i)), .c (.v (.int .i64 n)), .c (.v (.int .i64 term))] Try.func8 C8b rfl 110 Try.ntmps8 (by simp) fun w hw => ?_
  refine ops_open fun oW oA oS oM oBa oBo oBx oBn oE oN oL oLe oAnd oOr oNot oBq oSq oMx oMn oC oSz oAd oIx oQu oRe oSl oSr hO => ?_
  have hnt : oNot true = false := by
    obtain ⟨rfl, rfl, rfl, rfl, rfl, rfl, rfl, rfl, rfl, rfl, rfl, rfl, rfl, rfl, rfl, rfl, rfl, rfl, rfl, rfl, rfl, rfl, rfl, rfl, rfl, rfl, rfl⟩ := Ops.mk.inj hO
    rfl
  have hnf : oNot false = true := by
    obtain ⟨rfl, rfl, rfl, rfl, rfl, rfl, rfl, rfl, rfl, rfl, rfl, rfl, rfl, rfl, rfl, rfl, rfl, rfl, rfl, rfl, rfl, rfl, rfl, rfl, rfl, rfl, rfl⟩ := Ops.mk.inj hO
    rfl
  have hc := Hp.le_refl H
  refine run_sound (E := E8 ⟨oW, oA, oS, oM, oBa, oBo, oBx, oBn, oE, oN, oL, oLe, oAnd, oOr, oNot, oBq, oSq, oMx, oMn, oC, oSz, oAd, oIx, oQu, oRe, oSl, oSr⟩ _) TEok hO Tm D8ok (PanicOk.body _ _ _) (Hp.le_refl _) 4000 _ _ ?_
  conv => arg 5; cbv
  simp only [Res.ok]
  refine EvG.pure Try.call12 (fun _ => rfl) (begun_pc _) ?_
  rintro H1 v hle1 rfl
  refine ⟨.kb true, _, fun _ => (by first | exact rfl | exact ⟨_, rfl, rfl⟩ | exact aggT_den _ _), rfl, ?_⟩
  replace hc := Hp.le_trans hc hle1
  refine run_sound (E := E8 ⟨oW, oA, oS, oM, oBa, oBo, oBx, oBn, oE, oN, oL, oLe, oAnd, oOr, oNot, oBq, oSq, oMx, oMn, oC, oSz, oAd, oIx, oQu, oRe, oSl, oSr⟩ _) TEok hO Tm D8ok (PanicOk.body _ _ _) (Hp.le_refl _) 4000 _ _ ?_
  conv => arg 5; cbv
  simp only [Res.ok]
  refine ⟨fun hh => (by rw [hnt] at hh; cases hh), fun _ => ?_⟩
  refine EvG.pure Try.call21 (fun _ => rfl) (Light_pc l none 0 0 [] _ (hl.mono hc) SVok.nil) ?_
  rintro H2 v hle2 ⟨bl, rfl, hbl⟩
  refine ⟨.t (.c (.v (.bool bl))), _, fun _ => (by first | exact rfl | exact ⟨_, rfl, rfl⟩ | exact aggT_den _ _), rfl, ?_⟩
  replace hc := Hp.le_trans hc hle2
  refine run_sound (E := E8 ⟨oW, oA, oS, oM, oBa, oBo, oBx, oBn, oE, oN, oL, oLe, oAnd, oOr, oNot, oBq, oSq, oMx, oMn, oC, oSz, oAd, oIx, oQu, oRe, oSl, oSr⟩ _) TEok hO Tm D8ok (PanicOk.body _ _ _) (Hp.le_refl _) 4000 _ _ ?_
  conv => arg 5; cbv
  simp only [Res.ok]
  refine ⟨fun hh => ?_, fun hh => ?_⟩
  · exact RetG.pc TEok C8r rfl rfl rfl (fun _ => rfl) rfl
  have hbl2 : bl = true := by
    cases bl
    · rw [hnf] at hh; cases hh
    · rfl
  have hln : l.n ≤ 60 := (hbl hbl2).1
  clear hh hbl
  refine EvG.pure Try.call22 (fun _ => rfl) (rMay_pc l _ (hl.mono hc) (by omega)) ?_
  rintro H3 v hle3 ⟨bm, rfl, hbm⟩
  refine ⟨.t (.c (.v (.bool bm))), _, fun _ => (by first | exact rfl | exact ⟨_, rfl, rfl⟩ | exact aggT_den _ _), rfl, ?_⟩
  replace hc := Hp.le_trans hc hle3
  refine run_sound (E := E8 ⟨oW, oA, oS, oM, oBa, oBo, oBx, oBn, oE, oN, oL, oLe, oAnd, oOr, oNot, oBq, oSq, oMx, oMn, oC, oSz, oAd, oIx, oQu, oRe, oSl, oSr⟩ _) TEok hO Tm D8ok (PanicOk.body _ _ _) (Hp.le_refl _) 4000 _ _ ?_
  conv => arg 5; cbv
  simp only [Res.ok]
  refine ⟨fun hh => ?_, fun hh => ?_⟩
  · have hm : ¬ MayL l := by
      rw [← hbm]
      intro h
      rw [h, hnt] at hh
      cases hh
    refine EvG.pure Try.call32 (fun _ => rfl) (May_pc l _ (hl.mono hc) (by omega)) ?_
    rintro H4 v hle4 ⟨bm2, rfl, hbm2⟩
    refine ⟨.t (.c (.v (.bool bm2))), _, fun _ => (by first | exact rfl | exact ⟨_, rfl, rfl⟩ | exact aggT_den _ _), rfl, ?_⟩
    have : bm2 = false := by
      cases bm2
      · rfl
      · exact absurd (hbm2.1 rfl) hm
    subst this
    refine run_sound (E := E8 ⟨oW, oA, oS, oM, oBa, oBo, oBx, oBn, oE, oN, oL, oLe, oAnd, oOr, oNot, oBq, oSq, oMx, oMn, oC, oSz, oAd, oIx, oQu, oRe, oSl, oSr⟩ _) TEok hO Tm D8ok (PanicOk.body _ _ _) (Hp.le_refl _) 4000 _ _ ?_
    conv => arg 5; cbv
    simp only [Res.ok]
    refine RetG.pc TEok C8r rfl rfl rfl (fun _ => rfl) ?_
    exact congrArg Value.bool hnf
  have hm : MayL l := by
    rw [← hbm]
    cases bm
    · rw [hnf] at hh; cases hh
    · rfl
  clear hh hbm
  have hf := hm.fine (by omega)
  have c17 := fun (H' : Hp) (h : Hp.le H H') => Term_pc l i H' (hl.mono h)
  have c33 := fun (H' : Hp) (h : Hp.le H H') => rTerm_pc l i H' (hl.mono h) hf hi
  have c30 := fun (H' : Hp) (h : Hp.le H H') => At_pc l i H' (hl.mono h)
  have c34 := fun (H' : Hp) (h : Hp.le H H') => rAt_pc l i H' (hl.mono h) hf hi
  have c32 := fun (H' : Hp) (h : Hp.le H H') => (May_pc l H' (hl.mono h) (by omega)).mono (R' := fun _ v => v = .bool true) fun _ _ _ ⟨b, hv, hb⟩ => by rw [hv, hb.2 hm]
  have c15 := fun H' => Last_pc l H'
  have c35 := fun H' => rLast_pc l H'
  have c29 := fun (H' : Hp) (h : Hp.le H H') => Slice_pc l i n H' (hl.mono h) (by omega)
  have c37 := fun (H' : Hp) (h : Hp.le H H') => rSlice_pc l i n H' (hl.mono h) hf hi
  rw [rslc_eq hf hl.1 hi] at c29
  have c16 := fun (H' : Hp) (h : Hp.le H H') => Conf_pc l H' (hl.mono h) (by omega)
  have c38 := fun (H' : Hp) (h : Hp.le H H') => rConf_pc l H' (hl.mono h) hf
  have c39 := fun (H' : Hp) (h : Hp.le H H') => Newer_pc l i term H' (hl.mono h)
  have c40 := fun (H' : Hp) (h : Hp.le H H') => rNewer_pc l i term H' (hl.mono h) hf
  rw [newer_eq hf] at c39
  obtain ⟨⟨t, is⟩, ht⟩ : ∃ x, l.term i = x := ⟨_, rfl⟩
  rw [ht] at c17 c33
  obtain ⟨⟨e, ia⟩, he⟩ : ∃ x, l.at i = x := ⟨_, rfl⟩
  rw [he] at c30 c34
  obtain ⟨lw, hlw⟩ : ∃ x, l.lastW = x := ⟨_, rfl⟩
  rw [hlw] at c15 c35
  have hes : (l.rslc i n).length ≤ 60 := by
    unfold LV.rslc
    rw [List.length_take, List.length_drop, ← hl.1]
    omega
  obtain ⟨es, hes0⟩ : ∃ x, l.rslc i n = x := ⟨_, rfl⟩
  rw [hes0] at c29 c37 hes
  obtain ⟨ne, hne⟩ : ∃ x, es.length = x := ⟨_, rfl⟩
  rw [hne] at c29 hes
  obtain ⟨J, hJ⟩ : ∃ x, confOf l.es l.j = x := ⟨_, rfl⟩
  rw [hJ] at c16 c38
  obtain ⟨nb, hnb⟩ : ∃ x, rNew l i term = x := ⟨_, rfl⟩
  rw [hnb] at c39 c40
  refine EvG.pure Try.call17 (fun _ => rfl) (c17 _ hc) ?_
  rintro HA v hleA rfl
  refine ⟨.tup [.c (.v (.int .i64 t)), .c (.v (.bool is))], _, fun _ => (by first | exact rfl | exact ⟨_, rfl, rfl⟩ | exact aggT_den _ _), rfl, ?_⟩
  replace hc := Hp.le_trans hc hleA
  refine run_sound (E := E8 ⟨oW, oA, oS, oM, oBa, oBo, oBx, oBn, oE, oN, oL, oLe, oAnd, oOr, oNot, oBq, oSq, oMx, oMn, oC, oSz, oAd, oIx, oQu, oRe, oSl, oSr⟩ _) TEok hO Tm D8ok (PanicOk.body _ _ _) (Hp.le_refl _) 4000 _ _ ?_
  conv => arg 5; cbv
  simp only [Res.ok]
  refine EvG.pure Try.call33 (fun _ => rfl) (c33 _ hc) ?_
  rintro HB v hleB rfl
  refine ⟨.tup [.c (.v (.int .i64 t)), .c (.v (.bool is))], _, fun _ => (by first | exact rfl | exact ⟨_, rfl, rfl⟩ | exact aggT_den _ _), rfl, ?_⟩
  replace hc := Hp.le_trans hc hleB
  refine run_sound (E := E8 ⟨oW, oA, oS, oM, oBa, oBo, oBx, oBn, oE, oN, oL, oLe, oAnd, oOr, oNot, oBq, oSq, oMx, oMn, oC, oSz, oAd, oIx, oQu, oRe, oSl, oSr⟩ _) TEok hO Tm D8ok (PanicOk.body _ _ _) (Hp.le_refl _) 4000 _ _ ?_
  conv => arg 5; cbv
  simp only [Res.ok]
  refine EvG.pure Try.call30 (fun _ => rfl) (c30 _ hc) ?_
  rintro HC v hleC rfl
  refine ⟨.tup [aggT e.cs, .c (.v (.bool ia))], _, fun _ => (by first | exact rfl | exact ⟨_, rfl, rfl⟩ | exact aggT_den _ _), rfl, ?_⟩
  replace hc := Hp.le_trans hc hleC
  refine run_sound (E := E8 ⟨oW, oA, oS, oM, oBa, oBo, oBx, oBn, oE, oN, oL, oLe, oAnd, oOr, oNot, oBq, oSq, oMx, oMn, oC, oSz, oAd, oIx, oQu, oRe, oSl, oSr⟩ _) TEok hO Tm D8ok (PanicOk.body _ _ _) (Hp.le_refl _) 4000 _ _ ?_
  conv => arg 5; cbv
  simp only [Res.ok]
  refine EvG.pure Try.call34 (fun _ => rfl) (c34 _ hc) ?_
  rintro HD v hleD rfl
  refine ⟨.tup [aggT e.cs, .c (.v (.bool ia))], _, fun _ => (by first | exact rfl | exact ⟨_, rfl, rfl⟩ | exact aggT_den _ _), rfl, ?_⟩
  replace hc := Hp.le_trans hc hleD
  refine run_sound (E := E8 ⟨oW, oA, oS, oM, oBa, oBo, oBx, oBn, oE, oN, oL, oLe, oAnd, oOr, oNot, oBq, oSq, oMx, oMn, oC, oSz, oAd, oIx, oQu, oRe, oSl, oSr⟩ _) TEok hO Tm D8ok (PanicOk.body _ _ _) (Hp.le_refl _) 4000 _ _ ?_
  conv => arg 5; cbv
  simp only [Res.ok]
  refine EvG.pure Try.call32 (fun _ => rfl) (c32 _ hc) ?_
  rintro HE v hleE rfl
  refine ⟨.kb true, _, fun _ => (by first | exact rfl | exact ⟨_, rfl, rfl⟩ | exact aggT_den _ _), rfl, ?_⟩
  replace hc := Hp.le_trans hc hleE
  iterate 4 (try (refine run_sound (E := E8 ⟨oW, oA, oS, oM, oBa, oBo, oBx, oBn, oE, oN, oL, oLe, oAnd, oOr, oNot, oBq, oSq, oMx, oMn, oC, oSz, oAd, oIx, oQu, oRe, oSl, oSr⟩ _) TEok hO Tm D8ok (PanicOk.body _ _ _) (Hp.le_refl _) 8 _ _ ?_; (conv => arg 5; cbv); simp only [Res.ok]))
  refine ⟨fun _ => ?_, fun hh => ?_⟩
  rotate_left
  · exfalso
    revert hh
    obtain ⟨rfl, rfl, rfl, rfl, rfl, rfl, rfl, rfl, rfl, rfl, rfl, rfl, rfl, rfl, rfl, rfl, rfl, rfl, rfl, rfl, rfl, rfl, rfl, rfl, rfl, rfl, rfl⟩ := Ops.mk.inj hO
    simp [Ops.std]
  iterate 3 (try (refine run_sound (E := E8 ⟨oW, oA, oS, oM, oBa, oBo, oBx, oBn, oE, oN, oL, oLe, oAnd, oOr, oNot, oBq, oSq, oMx, oMn, oC, oSz, oAd, oIx, oQu, oRe, oSl, oSr⟩ _) TEok hO Tm D8ok (PanicOk.body _ _ _) (Hp.le_refl _) 6 _ _ ?_; (conv => arg 5; cbv); simp only [Res.ok]))
  refine EvG.pure Try.call15 (fun _ => rfl) (c15 _) ?_
  rintro HF v hleF rfl
  refine ⟨.t (.c (.v (.int .i64 lw))), _, fun _ => (by first | exact rfl | exact ⟨_, rfl, rfl⟩ | exact aggT_den _ _), rfl, ?_⟩
  replace hc := Hp.le_trans hc hleF
  iterate 4 (try (refine run_sound (E := E8 ⟨oW, oA, oS, oM, oBa, oBo, oBx, oBn, oE, oN, oL, oLe, oAnd, oOr, oNot, oBq, oSq, oMx, oMn, oC, oSz, oAd, oIx, oQu, oRe, oSl, oSr⟩ _) TEok hO Tm D8ok (PanicOk.body _ _ _) (Hp.le_refl _) 6 _ _ ?_; (conv => arg 5; cbv); simp only [Res.ok]))
  refine EvG.pure Try.call35 (fun _ => rfl) (c35 _) ?_
  rintro HG v hleG rfl
  refine ⟨.t (.c (.v (.int .i64 lw))), _, fun _ => (by first | exact rfl | exact ⟨_, rfl, rfl⟩ | exact aggT_den _ _), rfl, ?_⟩
  replace hc := Hp.le_trans hc hleG
  iterate 4 (try (refine run_sound (E := E8 ⟨oW, oA, oS, oM, oBa, oBo, oBx, oBn, oE, oN, oL, oLe, oAnd, oOr, oNot, oBq, oSq, oMx, oMn, oC, oSz, oAd, oIx, oQu, oRe, oSl, oSr⟩ _) TEok hO Tm D8ok (PanicOk.body _ _ _) (Hp.le_refl _) 6 _ _ ?_; (conv => arg 5; cbv); simp only [Res.ok]))
  refine ⟨fun _ => ?_, fun hh => ?_⟩
  rotate_left
  · exfalso
    revert hh
    obtain ⟨rfl, rfl, rfl, rfl, rfl, rfl, rfl, rfl, rfl, rfl, rfl, rfl, rfl, rfl, rfl, rfl, rfl, rfl, rfl, rfl, rfl, rfl, rfl, rfl, rfl, rfl, rfl⟩ := Ops.mk.inj hO
    simp [Ops.std]
  iterate 3 (try (refine run_sound (E := E8 ⟨oW, oA, oS, oM, oBa, oBo, oBx, oBn, oE, oN, oL, oLe, oAnd, oOr, oNot, oBq, oSq, oMx, oMn, oC, oSz, oAd, oIx, oQu, oRe, oSl, oSr⟩ _) TEok hO Tm D8ok (PanicOk.body _ _ _) (Hp.le_refl _) 6 _ _ ?_; (conv => arg 5; cbv); simp only [Res.ok]))
  refine EvG.pure Try.call29 (fun _ => rfl) (c29 _ hc) ?_
  rintro HJ v hleJ ⟨A1, c1, rfl, s1⟩
  refine ⟨.t (.c (.v (.slice A1 ne c1))), _, fun _ => (by first | exact rfl | exact ⟨_, rfl, rfl⟩ | exact aggT_den _ _), rfl, ?_⟩
  replace hc := Hp.le_trans hc hleJ
  iterate 4 (try (refine run_sound (E := E8 ⟨oW, oA, oS, oM, oBa, oBo, oBx, oBn, oE, oN, oL, oLe, oAnd, oOr, oNot, oBq, oSq, oMx, oMn, oC, oSz, oAd, oIx, oQu, oRe, oSl, oSr⟩ _) TEok hO Tm D8ok (PanicOk.body _ _ _) (Hp.le_refl _) 6 _ _ ?_; (conv => arg 5; cbv); simp only [Res.ok]))
  refine EvG.pure Try.call37 (fun _ => rfl) (c37 _ hc) ?_
  rintro HK v hleK ⟨A2, n2, c2, rfl, s2⟩
  refine ⟨.t (.c (.v (.slice A2 n2 c2))), _, fun _ => (by first | exact rfl | exact ⟨_, rfl, rfl⟩ | exact aggT_den _ _), rfl, ?_⟩
  replace hc := Hp.le_trans hc hleK
  have c36 := (Alike_pc A1 A2 ne n2 c1 c2 es es HK (s1.mono hleK) s2 (by omega)).mono (R' := fun _ v => v = .bool true) fun _ _ _ ⟨b, hv, hb⟩ => by rw [hv, hb.2 rfl]
  iterate 4 (try (refine run_sound (E := E8 ⟨oW, oA, oS, oM, oBa, oBo, oBx, oBn, oE, oN, oL, oLe, oAnd, oOr, oNot, oBq, oSq, oMx, oMn, oC, oSz, oAd, oIx, oQu, oRe, oSl, oSr⟩ _) TEok hO Tm D8ok (PanicOk.body _ _ _) (Hp.le_refl _) 6 _ _ ?_; (conv => arg 5; cbv); simp only [Res.ok]))
  refine EvG.pure Try.call36 (fun _ => rfl) (c36) ?_
  rintro HL v hleL rfl
  refine ⟨.kb true, _, fun _ => (by first | exact rfl | exact ⟨_, rfl, rfl⟩ | exact aggT_den _ _), rfl, ?_⟩
  replace hc := Hp.le_trans hc hleL
  iterate 4 (try (refine run_sound (E := E8 ⟨oW, oA, oS, oM, oBa, oBo, oBx, oBn, oE, oN, oL, oLe, oAnd, oOr, oNot, oBq, oSq, oMx, oMn, oC, oSz, oAd, oIx, oQu, oRe, oSl, oSr⟩ _) TEok hO Tm D8ok (PanicOk.body _ _ _) (Hp.le_refl _) 6 _ _ ?_; (conv => arg 5; cbv); simp only [Res.ok]))
  refine EvG.pure Try.call16 (fun _ => rfl) (c16 _ hc) ?_
  rintro HM v hleM rfl
  refine ⟨.t (aggT J.cs), _, fun _ => (by first | exact rfl | exact ⟨_, rfl, rfl⟩ | exact aggT_den _ _), rfl, ?_⟩
  replace hc := Hp.le_trans hc hleM
  iterate 4 (try (refine run_sound (E := E8 ⟨oW, oA, oS, oM, oBa, oBo, oBx, oBn, oE, oN, oL, oLe, oAnd, oOr, oNot, oBq, oSq, oMx, oMn, oC, oSz, oAd, oIx, oQu, oRe, oSl, oSr⟩ _) TEok hO Tm D8ok (PanicOk.body _ _ _) (Hp.le_refl _) 6 _ _ ?_; (conv => arg 5; cbv); simp only [Res.ok]))
  refine EvG.pure Try.call38 (fun _ => rfl) (c38 _ hc) ?_
  rintro HN v hleN rfl
  refine ⟨.t (aggT J.cs), _, fun _ => (by first | exact rfl | exact ⟨_, rfl, rfl⟩ | exact aggT_den _ _), rfl, ?_⟩
  replace hc := Hp.le_trans hc hleN
  iterate 4 (try (refine run_sound (E := E8 ⟨oW, oA, oS, oM, oBa, oBo, oBx, oBn, oE, oN, oL, oLe, oAnd, oOr, oNot, oBq, oSq, oMx, oMn, oC, oSz, oAd, oIx, oQu, oRe, oSl, oSr⟩ _) TEok hO Tm D8ok (PanicOk.body _ _ _) (Hp.le_refl _) 6 _ _ ?_; (conv => arg 5; cbv); simp only [Res.ok]))
  refine ⟨fun _ => ?_, fun hh => ?_⟩
  rotate_left
  · exfalso
    revert hh
    obtain ⟨rfl, rfl, rfl, rfl, rfl, rfl, rfl, rfl, rfl, rfl, rfl, rfl, rfl, rfl, rfl, rfl, rfl, rfl, rfl, rfl, rfl, rfl, rfl, rfl, rfl, rfl, rfl⟩ := Ops.mk.inj hO
    simp [Ops.std]
  iterate 4 (try (refine run_sound (E := E8 ⟨oW, oA, oS, oM, oBa, oBo, oBx, oBn, oE, oN, oL, oLe, oAnd, oOr, oNot, oBq, oSq, oMx, oMn, oC, oSz, oAd, oIx, oQu, oRe, oSl, oSr⟩ _) TEok hO Tm D8ok (PanicOk.body _ _ _) (Hp.le_refl _) 6 _ _ ?_; (conv => arg 5; cbv); simp only [Res.ok]))
  refine EvG.pure Try.call39 (fun _ => rfl) (c39 _ hc) ?_
  rintro HO v hleO rfl
  refine ⟨.t (.c (.v (.bool nb))), _, fun _ => (by first | exact rfl | exact ⟨_, rfl, rfl⟩ | exact aggT_den _ _), rfl, ?_⟩
  replace hc := Hp.le_trans hc hleO
  iterate 4 (try (refine run_sound (E := E8 ⟨oW, oA, oS, oM, oBa, oBo, oBx, oBn, oE, oN, oL, oLe, oAnd, oOr, oNot, oBq, oSq, oMx, oMn, oC, oSz, oAd, oIx, oQu, oRe, oSl, oSr⟩ _) TEok hO Tm D8ok (PanicOk.body _ _ _) (Hp.le_refl _) 6 _ _ ?_; (conv => arg 5; cbv); simp only [Res.ok]))
  refine EvG.pure Try.call40 (fun _ => rfl) (c40 _ hc) ?_
  rintro HP v hleP rfl
  refine ⟨.t (.c (.v (.bool nb))), _, fun _ => (by first | exact rfl | exact ⟨_, rfl, rfl⟩ | exact aggT_den _ _), rfl, ?_⟩
  iterate 4 (try (refine run_sound (E := E8 ⟨oW, oA, oS, oM, oBa, oBo, oBx, oBn, oE, oN, oL, oLe, oAnd, oOr, oNot, oBq, oSq, oMx, oMn, oC, oSz, oAd, oIx, oQu, oRe, oSl, oSr⟩ _) TEok hO Tm D8ok (PanicOk.body _ _ _) (Hp.le_refl _) 6 _ _ ?_; (conv => arg 5; cbv); simp only [Res.ok]))
  refine RetG.pc TEok C8r rfl rfl rfl (fun _ => rfl) ?_
  refine congrArg Value.bool ?_
  obtain ⟨rfl, rfl, rfl, rfl, rfl, rfl, rfl, rfl, rfl, rfl, rfl, rfl, rfl, rfl, rfl, rfl, rfl, rfl, rfl, rfl, rfl, rfl, rfl, rfl, rfl, rfl, rfl⟩ := Ops.mk.inj hO
  simp [Ops.std]
end Go.Sx
