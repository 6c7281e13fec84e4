/- The statement EntriesOrder, walked. -/
import Derived.Test.YtkmplcpibgnjcaaE10
namespace Go.Sx
open Go.Proofs Go.RowKit

theorem made0 {A : Option Addr} {n c : Nat} {bs : List UInt8} {H : Hp} (hr : Rw H 1 A n (bs.map u8V)) (hn : n ≤ 1000) (H1 : Hp) (hle : Hp.le H H1) :
    PC Try.prog 13 [.slice A n c, .int .i64 0, .int .i64 0] H1 fun H' v => ∃ l' : LV, v = aggV l'.cs ∧ l'.ok H' ∧ l'.b = 0 ∧ l'.bt = 0 ∧ l'.j = .zero ∧ l'.es = madeE 1 bs :=
  made_pc A n c bs 0 0 H1 (hr.mono hle) hn (by decide) (by decide)
noncomputable def C4 : Code := fbody Try.f4
theorem C4b : Try.f4.body = some C4 := by kernel_rfl
theorem C4r : Try.f4.results.toList = [.tmp 6] := by kernel_rfl
def D4 : List (List Nat) := [[0, 1, 1, 1, 1], [0, 1, 1, 1, 1, 1], [0, 1, 1, 1, 1, 1, 1]]
theorem D4ok : drOk C4 D4 = true := by kernel_rfl
noncomputable def E4 (O : Ops) (H : Hp) : Env := ⟨O, H, TE, C4, [.tmp 6], D4⟩
set_option maxHeartbeats 4000000 in
set_option maxRecDepth 100000 in
theorem Order_pc (A1 A2 A3 : Option Addr) (n1 n2 n3 c1 c2 c3 : Nat) (bs1 bs2 bs3 : List UInt8) (H : Hp) (hr1 : Rw H 1 A1 n1 (bs1.map u8V)) (hr2 : Rw H 1 A2 n2 (bs2.map u8V)) (hr3 : Rw H 1 A3 n3 (bs3.map u8V)) :
    PC Try.prog 4 [.slice A1 n1 c1, .slice A2 n2 c2, .slice A3 n3 c3] H fun _ v => v = .bool true := by
  refine PC.enter [.c (.v (.slice A1 n1 c1)), .c (.v (.slice A2 n2 c2)), .c (.v (.slice A3 n3 c3))] Try.func4 C4b rfl 97 Try.ntmps4 (by simp) fun w hw => ?_
  refine ops_open fun oW oA oS oM oBa oBo oBx oBn oE oN oL oLe oAnd oOr oNot oBq oSq oMx oMn oC oSz oAd oIx oQu oRe oSl oSr hO => ?_
  have hnt : oNot true = false := by
    obtain ⟨rfl, rfl, rfl, rfl, rfl, rfl, rfl, rfl, rfl, rfl, rfl, rfl, rfl, rfl, rfl, rfl, rfl, rfl, rfl, rfl, rfl, rfl, rfl, rfl, rfl, rfl, rfl⟩ := Ops.mk.inj hO
    rfl
  refine run_sound (E := E4 ⟨oW, oA, oS, oM, oBa, oBo, oBx, oBn, oE, oN, oL, oLe, oAnd, oOr, oNot, oBq, oSq, oMx, oMn, oC, oSz, oAd, oIx, oQu, oRe, oSl, oSr⟩ _) TEok hO Tm D4ok (PanicOk.body _ _ _) (Hp.le_refl _) 4000 _ _ ?_
  conv => arg 5; cbv
  simp only [Res.ok]
  refine EvG.pure Try.call12 (fun _ => rfl) (begun_pc _) ?_
  rintro H1 v hle1 rfl
  refine ⟨.kb true, _, fun _ => (by first | exact rfl | exact ⟨_, rfl, rfl⟩ | exact aggT_den _ _), rfl, ?_⟩
  refine run_sound (E := E4 ⟨oW, oA, oS, oM, oBa, oBo, oBx, oBn, oE, oN, oL, oLe, oAnd, oOr, oNot, oBq, oSq, oMx, oMn, oC, oSz, oAd, oIx, oQu, oRe, oSl, oSr⟩ _) TEok hO Tm D4ok (PanicOk.body _ _ _) (Hp.le_refl _) 4000 _ _ ?_
  conv => arg 5; cbv
  simp only [Res.ok]
  refine ⟨fun hh => (by rw [hnt] at hh; cases hh), fun _ => ⟨fun hh => ?_, fun hh => ?_⟩⟩
  · exact RetG.pc TEok C4r rfl rfl rfl (fun _ => rfl) rfl
  have hn : n1 ≤ 40 ∧ n2 ≤ 40 ∧ n3 ≤ 40 := by
    obtain ⟨rfl, rfl, rfl, rfl, rfl, rfl, rfl, rfl, rfl, rfl, rfl, rfl, rfl, rfl, rfl, rfl, rfl, rfl, rfl, rfl, rfl, rfl, rfl, rfl, rfl, rfl, rfl⟩ := Ops.mk.inj hO
    simp [Ops.std] at hh
    omega
  obtain ⟨hn1, hn2, hn3⟩ := hn
  refine EvG.pure Try.call13 (fun _ => rfl) (made0 hr1 (by omega) _ hle1) ?_
  rintro H2 v hle2 ⟨l, rfl, hl, -, -, -, -⟩
  refine ⟨.t (aggT l.cs), _, fun _ => (by first | exact rfl | exact ⟨_, rfl, rfl⟩ | exact aggT_den _ _), rfl, ?_⟩
  refine run_sound (E := E4 ⟨oW, oA, oS, oM, oBa, oBo, oBx, oBn, oE, oN, oL, oLe, oAnd, oOr, oNot, oBq, oSq, oMx, oMn, oC, oSz, oAd, oIx, oQu, oRe, oSl, oSr⟩ _) TEok hO Tm D4ok (PanicOk.body _ _ _) (Hp.le_refl _) 4000 _ _ ?_
  conv => arg 5; cbv
  simp only [Res.ok]
  refine EvG.pure Try.call13 (fun _ => rfl) (made0 hr2 (by omega) _ (Hp.le_trans hle1 hle2)) ?_
  rintro H3 v hle3 ⟨m, rfl, hm, -, -, -, -⟩
  refine ⟨.t (aggT m.cs), _, fun _ => (by first | exact rfl | exact ⟨_, rfl, rfl⟩ | exact aggT_den _ _), rfl, ?_⟩
  refine run_sound (E := E4 ⟨oW, oA, oS, oM, oBa, oBo, oBx, oBn, oE, oN, oL, oLe, oAnd, oOr, oNot, oBq, oSq, oMx, oMn, oC, oSz, oAd, oIx, oQu, oRe, oSl, oSr⟩ _) TEok hO Tm D4ok (PanicOk.body _ _ _) (Hp.le_refl _) 4000 _ _ ?_
  conv => arg 5; cbv
  simp only [Res.ok]
  refine EvG.pure Try.call13 (fun _ => rfl) (made0 hr3 (by omega) _ (Hp.le_trans hle1 (Hp.le_trans hle2 hle3))) ?_
  rintro H4 v hle4 ⟨o, rfl, ho, -, -, -, -⟩
  refine ⟨.t (aggT o.cs), _, fun _ => (by first | exact rfl | exact ⟨_, rfl, rfl⟩ | exact aggT_den _ _), rfl, ?_⟩
  have hc4 := Hp.le_refl H4
  replace hl := hl.mono (Hp.le_trans hle3 hle4)
  replace hm := hm.mono hle4
  have h12 := fun H' (h : Hp.le H4 H') => newer_pc l m H' (hl.mono h) (hm.mono h)
  have h21 := fun H' (h : Hp.le H4 H') => newer_pc m l H' (hm.mono h) (hl.mono h)
  have h23 := fun H' (h : Hp.le H4 H') => newer_pc m o H' (hm.mono h) (ho.mono h)
  have h13 := fun H' (h : Hp.le H4 H') => newer_pc l o H' (hl.mono h) (ho.mono h)
  obtain ⟨o1, o2, o3⟩ := nw_order l m o
  have cL := fun H' => Last_pc l H'
  have cM := fun H' => Last_pc m H'
  have tL := fun H' (h : Hp.le H4 H') => Term_pc l l.lastW H' (hl.mono h)
  have tM := fun H' (h : Hp.le H4 H') => Term_pc m m.lastW H' (hm.mono h)
  generalize nw l m = p12 at *
  generalize nw m l = p21 at *
  generalize nw m o = p23 at *
  generalize nw l o = p13 at *
  obtain ⟨lw, hlw⟩ : ∃ x, l.lastW = x := ⟨_, rfl⟩
  obtain ⟨mw, hmw⟩ : ∃ x, m.lastW = x := ⟨_, rfl⟩
  rw [hlw] at cL tL o2
  rw [hmw] at cM tM o2
  obtain ⟨⟨t1, i1⟩, ht1⟩ : ∃ x, l.term lw = x := ⟨_, rfl⟩
  obtain ⟨⟨t2, i2⟩, ht2⟩ : ∃ x, m.term mw = x := ⟨_, rfl⟩
  rw [ht1] at tL o2
  rw [ht2] at tM o2
  simp only at o2
  refine run_sound (E := E4 ⟨oW, oA, oS, oM, oBa, oBo, oBx, oBn, oE, oN, oL, oLe, oAnd, oOr, oNot, oBq, oSq, oMx, oMn, oC, oSz, oAd, oIx, oQu, oRe, oSl, oSr⟩ _) TEok hO Tm D4ok (PanicOk.body _ _ _) (Hp.le_refl _) 4000 _ _ ?_
  conv => arg 5; cbv
  simp only [Res.ok]
  refine EvG.pure Try.call15 (fun _ => rfl) (cL _) ?_
  rintro H5 v hle5 rfl
  refine ⟨.t (.c (.v (.int .i64 lw))), _, fun _ => (by first | exact rfl | exact ⟨_, rfl, rfl⟩ | exact aggT_den _ _), rfl, ?_⟩
  replace hc4 := Hp.le_trans hc4 hle5
  refine run_sound (E := E4 ⟨oW, oA, oS, oM, oBa, oBo, oBx, oBn, oE, oN, oL, oLe, oAnd, oOr, oNot, oBq, oSq, oMx, oMn, oC, oSz, oAd, oIx, oQu, oRe, oSl, oSr⟩ _) TEok hO Tm D4ok (PanicOk.body _ _ _) (Hp.le_refl _) 4000 _ _ ?_
  conv => arg 5; cbv
  simp only [Res.ok]
  refine EvG.pure Try.call17 (fun _ => rfl) (tL _ hc4) ?_
  rintro H6 v hle6 rfl
  refine ⟨.tup [.c (.v (.int .i64 t1)), .c (.v (.bool i1))], _, fun _ => (by first | exact rfl | exact ⟨_, rfl, rfl⟩ | exact aggT_den _ _), rfl, ?_⟩
  replace hc4 := Hp.le_trans hc4 hle6
  refine run_sound (E := E4 ⟨oW, oA, oS, oM, oBa, oBo, oBx, oBn, oE, oN, oL, oLe, oAnd, oOr, oNot, oBq, oSq, oMx, oMn, oC, oSz, oAd, oIx, oQu, oRe, oSl, oSr⟩ _) TEok hO Tm D4ok (PanicOk.body _ _ _) (Hp.le_refl _) 4000 _ _ ?_
  conv => arg 5; cbv
  simp only [Res.ok]
  refine EvG.pure Try.call15 (fun _ => rfl) (cM _) ?_
  rintro H7 v hle7 rfl
  refine ⟨.t (.c (.v (.int .i64 mw))), _, fun _ => (by first | exact rfl | exact ⟨_, rfl, rfl⟩ | exact aggT_den _ _), rfl, ?_⟩
  replace hc4 := Hp.le_trans hc4 hle7
  refine run_sound (E := E4 ⟨oW, oA, oS, oM, oBa, oBo, oBx, oBn, oE, oN, oL, oLe, oAnd, oOr, oNot, oBq, oSq, oMx, oMn, oC, oSz, oAd, oIx, oQu, oRe, oSl, oSr⟩ _) TEok hO Tm D4ok (PanicOk.body _ _ _) (Hp.le_refl _) 4000 _ _ ?_
  conv => arg 5; cbv
  simp only [Res.ok]
  refine EvG.pure Try.call17 (fun _ => rfl) (tM _ hc4) ?_
  rintro H8 v hle8 rfl
  refine ⟨.tup [.c (.v (.int .i64 t2)), .c (.v (.bool i2))], _, fun _ => (by first | exact rfl | exact ⟨_, rfl, rfl⟩ | exact aggT_den _ _), rfl, ?_⟩
  replace hc4 := Hp.le_trans hc4 hle8
  refine run_sound (E := E4 ⟨oW, oA, oS, oM, oBa, oBo, oBx, oBn, oE, oN, oL, oLe, oAnd, oOr, oNot, oBq, oSq, oMx, oMn, oC, oSz, oAd, oIx, oQu, oRe, oSl, oSr⟩ _) TEok hO Tm D4ok (PanicOk.body _ _ _) (Hp.le_refl _) 4000 _ _ ?_
  conv => arg 5; cbv
  simp only [Res.ok]
  refine ⟨fun hh => ?_, fun hh => ?_⟩
  · refine EvG.pure Try.call15 (fun _ => rfl) (cL _) ?_
    rintro H9 v hle9 rfl
    refine ⟨.t (.c (.v (.int .i64 lw))), _, fun _ => (by first | exact rfl | exact ⟨_, rfl, rfl⟩ | exact aggT_den _ _), rfl, ?_⟩
    replace hc4 := Hp.le_trans hc4 hle9
    refine run_sound (E := E4 ⟨oW, oA, oS, oM, oBa, oBo, oBx, oBn, oE, oN, oL, oLe, oAnd, oOr, oNot, oBq, oSq, oMx, oMn, oC, oSz, oAd, oIx, oQu, oRe, oSl, oSr⟩ _) TEok hO Tm D4ok (PanicOk.body _ _ _) (Hp.le_refl _) 4000 _ _ ?_
    conv => arg 5; cbv
    simp only [Res.ok]
    refine EvG.pure Try.call15 (fun _ => rfl) (cM _) ?_
    rintro H9 v hle9 rfl
    refine ⟨.t (.c (.v (.int .i64 mw))), _, fun _ => (by first | exact rfl | exact ⟨_, rfl, rfl⟩ | exact aggT_den _ _), rfl, ?_⟩
    replace hc4 := Hp.le_trans hc4 hle9
    refine run_sound (E := E4 ⟨oW, oA, oS, oM, oBa, oBo, oBx, oBn, oE, oN, oL, oLe, oAnd, oOr, oNot, oBq, oSq, oMx, oMn, oC, oSz, oAd, oIx, oQu, oRe, oSl, oSr⟩ _) TEok hO Tm D4ok (PanicOk.body _ _ _) (Hp.le_refl _) 4000 _ _ ?_
    conv => arg 5; cbv
    simp only [Res.ok]
    cases p12 <;> cases p21
    · exact absurd o1 (by decide)
    · refine EvG.pure Try.call20 (fun _ => rfl) (h12 _ hc4) ?_
      rintro H9 v hle9 rfl
      refine ⟨.kb false, _, fun _ => (by first | exact rfl | exact ⟨_, rfl, rfl⟩ | exact aggT_den _ _), rfl, ?_⟩
      replace hc4 := Hp.le_trans hc4 hle9
      refine run_sound (E := E4 ⟨oW, oA, oS, oM, oBa, oBo, oBx, oBn, oE, oN, oL, oLe, oAnd, oOr, oNot, oBq, oSq, oMx, oMn, oC, oSz, oAd, oIx, oQu, oRe, oSl, oSr⟩ _) TEok hO Tm D4ok (PanicOk.body _ _ _) (Hp.le_refl _) 4000 _ _ ?_
      conv => arg 5; cbv
      simp only [Res.ok]
      refine EvG.pure Try.call20 (fun _ => rfl) (h21 _ hc4) ?_
      rintro H9 v hle9 rfl
      refine ⟨.kb true, _, fun _ => (by first | exact rfl | exact ⟨_, rfl, rfl⟩ | exact aggT_den _ _), rfl, ?_⟩
      replace hc4 := Hp.le_trans hc4 hle9
      refine run_sound (E := E4 ⟨oW, oA, oS, oM, oBa, oBo, oBx, oBn, oE, oN, oL, oLe, oAnd, oOr, oNot, oBq, oSq, oMx, oMn, oC, oSz, oAd, oIx, oQu, oRe, oSl, oSr⟩ _) TEok hO Tm D4ok (PanicOk.body _ _ _) (Hp.le_refl _) 4000 _ _ ?_
      conv => arg 5; cbv
      simp only [Res.ok]
      refine EvG.pure Try.call20 (fun _ => rfl) (h12 _ hc4) ?_
      rintro H9 v hle9 rfl
      refine ⟨.kb false, _, fun _ => (by first | exact rfl | exact ⟨_, rfl, rfl⟩ | exact aggT_den _ _), rfl, ?_⟩
      replace hc4 := Hp.le_trans hc4 hle9
      refine run_sound (E := E4 ⟨oW, oA, oS, oM, oBa, oBo, oBx, oBn, oE, oN, oL, oLe, oAnd, oOr, oNot, oBq, oSq, oMx, oMn, oC, oSz, oAd, oIx, oQu, oRe, oSl, oSr⟩ _) TEok hO Tm D4ok (PanicOk.body _ _ _) (Hp.le_refl _) 4000 _ _ ?_
      conv => arg 5; cbv
      simp only [Res.ok]
      refine ⟨fun _ => ?_, fun hq => ?_⟩
      rotate_left
      · exfalso
        revert hq hh o2
        obtain ⟨rfl, rfl, rfl, rfl, rfl, rfl, rfl, rfl, rfl, rfl, rfl, rfl, rfl, rfl, rfl, rfl, rfl, rfl, rfl, rfl, rfl, rfl, rfl, rfl, rfl, rfl, rfl⟩ := Ops.mk.inj hO
        simp [Ops.std]
        try omega
      refine EvG.pure Try.call20 (fun _ => rfl) (h12 _ hc4) ?_
      rintro H9 v hle9 rfl
      refine ⟨.kb false, _, fun _ => (by first | exact rfl | exact ⟨_, rfl, rfl⟩ | exact aggT_den _ _), rfl, ?_⟩
      replace hc4 := Hp.le_trans hc4 hle9
      refine run_sound (E := E4 ⟨oW, oA, oS, oM, oBa, oBo, oBx, oBn, oE, oN, oL, oLe, oAnd, oOr, oNot, oBq, oSq, oMx, oMn, oC, oSz, oAd, oIx, oQu, oRe, oSl, oSr⟩ _) TEok hO Tm D4ok (PanicOk.body _ _ _) (Hp.le_refl _) 4000 _ _ ?_
      conv => arg 5; cbv
      simp only [Res.ok]
      refine RetG.pc TEok C4r rfl rfl rfl (fun _ => rfl) ?_
      first | rfl | (refine congrArg Value.bool ?_; revert hh o2; obtain ⟨rfl, rfl, rfl, rfl, rfl, rfl, rfl, rfl, rfl, rfl, rfl, rfl, rfl, rfl, rfl, rfl, rfl, rfl, rfl, rfl, rfl, rfl, rfl, rfl, rfl, rfl, rfl⟩ := Ops.mk.inj hO; simp [Ops.std])
    · refine EvG.pure Try.call20 (fun _ => rfl) (h12 _ hc4) ?_
      rintro H9 v hle9 rfl
      refine ⟨.kb true, _, fun _ => (by first | exact rfl | exact ⟨_, rfl, rfl⟩ | exact aggT_den _ _), rfl, ?_⟩
      replace hc4 := Hp.le_trans hc4 hle9
      refine run_sound (E := E4 ⟨oW, oA, oS, oM, oBa, oBo, oBx, oBn, oE, oN, oL, oLe, oAnd, oOr, oNot, oBq, oSq, oMx, oMn, oC, oSz, oAd, oIx, oQu, oRe, oSl, oSr⟩ _) TEok hO Tm D4ok (PanicOk.body _ _ _) (Hp.le_refl _) 4000 _ _ ?_
      conv => arg 5; cbv
      simp only [Res.ok]
      refine EvG.pure Try.call20 (fun _ => rfl) (h12 _ hc4) ?_
      rintro H9 v hle9 rfl
      refine ⟨.kb true, _, fun _ => (by first | exact rfl | exact ⟨_, rfl, rfl⟩ | exact aggT_den _ _), rfl, ?_⟩
      replace hc4 := Hp.le_trans hc4 hle9
      refine run_sound (E := E4 ⟨oW, oA, oS, oM, oBa, oBo, oBx, oBn, oE, oN, oL, oLe, oAnd, oOr, oNot, oBq, oSq, oMx, oMn, oC, oSz, oAd, oIx, oQu, oRe, oSl, oSr⟩ _) TEok hO Tm D4ok (PanicOk.body _ _ _) (Hp.le_refl _) 4000 _ _ ?_
      conv => arg 5; cbv
      simp only [Res.ok]
      refine EvG.pure Try.call20 (fun _ => rfl) (h21 _ hc4) ?_
      rintro H9 v hle9 rfl
      refine ⟨.kb false, _, fun _ => (by first | exact rfl | exact ⟨_, rfl, rfl⟩ | exact aggT_den _ _), rfl, ?_⟩
      replace hc4 := Hp.le_trans hc4 hle9
      refine run_sound (E := E4 ⟨oW, oA, oS, oM, oBa, oBo, oBx, oBn, oE, oN, oL, oLe, oAnd, oOr, oNot, oBq, oSq, oMx, oMn, oC, oSz, oAd, oIx, oQu, oRe, oSl, oSr⟩ _) TEok hO Tm D4ok (PanicOk.body _ _ _) (Hp.le_refl _) 4000 _ _ ?_
      conv => arg 5; cbv
      simp only [Res.ok]
      refine ⟨fun _ => ?_, fun hq => ?_⟩
      rotate_left
      · exfalso
        revert hq hh o2
        obtain ⟨rfl, rfl, rfl, rfl, rfl, rfl, rfl, rfl, rfl, rfl, rfl, rfl, rfl, rfl, rfl, rfl, rfl, rfl, rfl, rfl, rfl, rfl, rfl, rfl, rfl, rfl, rfl⟩ := Ops.mk.inj hO
        simp [Ops.std]
        try omega
      refine EvG.pure Try.call20 (fun _ => rfl) (h12 _ hc4) ?_
      rintro H9 v hle9 rfl
      refine ⟨.kb true, _, fun _ => (by first | exact rfl | exact ⟨_, rfl, rfl⟩ | exact aggT_den _ _), rfl, ?_⟩
      replace hc4 := Hp.le_trans hc4 hle9
      refine run_sound (E := E4 ⟨oW, oA, oS, oM, oBa, oBo, oBx, oBn, oE, oN, oL, oLe, oAnd, oOr, oNot, oBq, oSq, oMx, oMn, oC, oSz, oAd, oIx, oQu, oRe, oSl, oSr⟩ _) TEok hO Tm D4ok (PanicOk.body _ _ _) (Hp.le_refl _) 4000 _ _ ?_
      conv => arg 5; cbv
      simp only [Res.ok]
      cases p23
      · refine EvG.pure Try.call20 (fun _ => rfl) (h23 _ hc4) ?_
        rintro H9 v hle9 rfl
        refine ⟨.kb false, _, fun _ => (by first | exact rfl | exact ⟨_, rfl, rfl⟩ | exact aggT_den _ _), rfl, ?_⟩
        replace hc4 := Hp.le_trans hc4 hle9
        refine run_sound (E := E4 ⟨oW, oA, oS, oM, oBa, oBo, oBx, oBn, oE, oN, oL, oLe, oAnd, oOr, oNot, oBq, oSq, oMx, oMn, oC, oSz, oAd, oIx, oQu, oRe, oSl, oSr⟩ _) TEok hO Tm D4ok (PanicOk.body _ _ _) (Hp.le_refl _) 4000 _ _ ?_
        conv => arg 5; cbv
        simp only [Res.ok]
        refine RetG.pc TEok C4r rfl rfl rfl (fun _ => rfl) ?_
        first | rfl | (refine congrArg Value.bool ?_; revert hh o2; obtain ⟨rfl, rfl, rfl, rfl, rfl, rfl, rfl, rfl, rfl, rfl, rfl, rfl, rfl, rfl, rfl, rfl, rfl, rfl, rfl, rfl, rfl, rfl, rfl, rfl, rfl, rfl, rfl⟩ := Ops.mk.inj hO; simp [Ops.std])
      · have o4 : p13 = true := by simpa using o3
        subst o4
        refine EvG.pure Try.call20 (fun _ => rfl) (h23 _ hc4) ?_
        rintro H9 v hle9 rfl
        refine ⟨.kb true, _, fun _ => (by first | exact rfl | exact ⟨_, rfl, rfl⟩ | exact aggT_den _ _), rfl, ?_⟩
        replace hc4 := Hp.le_trans hc4 hle9
        refine run_sound (E := E4 ⟨oW, oA, oS, oM, oBa, oBo, oBx, oBn, oE, oN, oL, oLe, oAnd, oOr, oNot, oBq, oSq, oMx, oMn, oC, oSz, oAd, oIx, oQu, oRe, oSl, oSr⟩ _) TEok hO Tm D4ok (PanicOk.body _ _ _) (Hp.le_refl _) 4000 _ _ ?_
        conv => arg 5; cbv
        simp only [Res.ok]
        refine EvG.pure Try.call20 (fun _ => rfl) (h13 _ hc4) ?_
        rintro H9 v hle9 rfl
        refine ⟨.kb true, _, fun _ => (by first | exact rfl | exact ⟨_, rfl, rfl⟩ | exact aggT_den _ _), rfl, ?_⟩
        replace hc4 := Hp.le_trans hc4 hle9
        refine run_sound (E := E4 ⟨oW, oA, oS, oM, oBa, oBo, oBx, oBn, oE, oN, oL, oLe, oAnd, oOr, oNot, oBq, oSq, oMx, oMn, oC, oSz, oAd, oIx, oQu, oRe, oSl, oSr⟩ _) TEok hO Tm D4ok (PanicOk.body _ _ _) (Hp.le_refl _) 4000 _ _ ?_
        conv => arg 5; cbv
        simp only [Res.ok]
        refine RetG.pc TEok C4r rfl rfl rfl (fun _ => rfl) ?_
        first | rfl | (refine congrArg Value.bool ?_; revert hh o2; obtain ⟨rfl, rfl, rfl, rfl, rfl, rfl, rfl, rfl, rfl, rfl, rfl, rfl, rfl, rfl, rfl, rfl, rfl, rfl, rfl, rfl, rfl, rfl, rfl, rfl, rfl, rfl, rfl⟩ := Ops.mk.inj hO; simp [Ops.std])
    · refine EvG.pure Try.call20 (fun _ => rfl) (h12 _ hc4) ?_
      rintro H9 v hle9 rfl
      refine ⟨.kb true, _, fun _ => (by first | exact rfl | exact ⟨_, rfl, rfl⟩ | exact aggT_den _ _), rfl, ?_⟩
      replace hc4 := Hp.le_trans hc4 hle9
      refine run_sound (E := E4 ⟨oW, oA, oS, oM, oBa, oBo, oBx, oBn, oE, oN, oL, oLe, oAnd, oOr, oNot, oBq, oSq, oMx, oMn, oC, oSz, oAd, oIx, oQu, oRe, oSl, oSr⟩ _) TEok hO Tm D4ok (PanicOk.body _ _ _) (Hp.le_refl _) 4000 _ _ ?_
      conv => arg 5; cbv
      simp only [Res.ok]
      refine EvG.pure Try.call20 (fun _ => rfl) (h12 _ hc4) ?_
      rintro H9 v hle9 rfl
      refine ⟨.kb true, _, fun _ => (by first | exact rfl | exact ⟨_, rfl, rfl⟩ | exact aggT_den _ _), rfl, ?_⟩
      replace hc4 := Hp.le_trans hc4 hle9
      refine run_sound (E := E4 ⟨oW, oA, oS, oM, oBa, oBo, oBx, oBn, oE, oN, oL, oLe, oAnd, oOr, oNot, oBq, oSq, oMx, oMn, oC, oSz, oAd, oIx, oQu, oRe, oSl, oSr⟩ _) TEok hO Tm D4ok (PanicOk.body _ _ _) (Hp.le_refl _) 4000 _ _ ?_
      conv => arg 5; cbv
      simp only [Res.ok]
      refine EvG.pure Try.call20 (fun _ => rfl) (h21 _ hc4) ?_
      rintro H9 v hle9 rfl
      refine ⟨.kb true, _, fun _ => (by first | exact rfl | exact ⟨_, rfl, rfl⟩ | exact aggT_den _ _), rfl, ?_⟩
      replace hc4 := Hp.le_trans hc4 hle9
      refine run_sound (E := E4 ⟨oW, oA, oS, oM, oBa, oBo, oBx, oBn, oE, oN, oL, oLe, oAnd, oOr, oNot, oBq, oSq, oMx, oMn, oC, oSz, oAd, oIx, oQu, oRe, oSl, oSr⟩ _) TEok hO Tm D4ok (PanicOk.body _ _ _) (Hp.le_refl _) 4000 _ _ ?_
      conv => arg 5; cbv
      simp only [Res.ok]
      refine ⟨fun _ => ?_, fun hq => ?_⟩
      rotate_left
      · exfalso
        revert hq hh o2
        obtain ⟨rfl, rfl, rfl, rfl, rfl, rfl, rfl, rfl, rfl, rfl, rfl, rfl, rfl, rfl, rfl, rfl, rfl, rfl, rfl, rfl, rfl, rfl, rfl, rfl, rfl, rfl, rfl⟩ := Ops.mk.inj hO
        simp [Ops.std]
        try omega
      refine EvG.pure Try.call20 (fun _ => rfl) (h12 _ hc4) ?_
      rintro H9 v hle9 rfl
      refine ⟨.kb true, _, fun _ => (by first | exact rfl | exact ⟨_, rfl, rfl⟩ | exact aggT_den _ _), rfl, ?_⟩
      replace hc4 := Hp.le_trans hc4 hle9
      refine run_sound (E := E4 ⟨oW, oA, oS, oM, oBa, oBo, oBx, oBn, oE, oN, oL, oLe, oAnd, oOr, oNot, oBq, oSq, oMx, oMn, oC, oSz, oAd, oIx, oQu, oRe, oSl, oSr⟩ _) TEok hO Tm D4ok (PanicOk.body _ _ _) (Hp.le_refl _) 4000 _ _ ?_
      conv => arg 5; cbv
      simp only [Res.ok]
      cases p23
      · refine EvG.pure Try.call20 (fun _ => rfl) (h23 _ hc4) ?_
        rintro H9 v hle9 rfl
        refine ⟨.kb false, _, fun _ => (by first | exact rfl | exact ⟨_, rfl, rfl⟩ | exact aggT_den _ _), rfl, ?_⟩
        replace hc4 := Hp.le_trans hc4 hle9
        refine run_sound (E := E4 ⟨oW, oA, oS, oM, oBa, oBo, oBx, oBn, oE, oN, oL, oLe, oAnd, oOr, oNot, oBq, oSq, oMx, oMn, oC, oSz, oAd, oIx, oQu, oRe, oSl, oSr⟩ _) TEok hO Tm D4ok (PanicOk.body _ _ _) (Hp.le_refl _) 4000 _ _ ?_
        conv => arg 5; cbv
        simp only [Res.ok]
        refine RetG.pc TEok C4r rfl rfl rfl (fun _ => rfl) ?_
        first | rfl | (refine congrArg Value.bool ?_; revert hh o2; obtain ⟨rfl, rfl, rfl, rfl, rfl, rfl, rfl, rfl, rfl, rfl, rfl, rfl, rfl, rfl, rfl, rfl, rfl, rfl, rfl, rfl, rfl, rfl, rfl, rfl, rfl, rfl, rfl⟩ := Ops.mk.inj hO; simp [Ops.std])
      · have o4 : p13 = true := by simpa using o3
        subst o4
        refine EvG.pure Try.call20 (fun _ => rfl) (h23 _ hc4) ?_
        rintro H9 v hle9 rfl
        refine ⟨.kb true, _, fun _ => (by first | exact rfl | exact ⟨_, rfl, rfl⟩ | exact aggT_den _ _), rfl, ?_⟩
        replace hc4 := Hp.le_trans hc4 hle9
        refine run_sound (E := E4 ⟨oW, oA, oS, oM, oBa, oBo, oBx, oBn, oE, oN, oL, oLe, oAnd, oOr, oNot, oBq, oSq, oMx, oMn, oC, oSz, oAd, oIx, oQu, oRe, oSl, oSr⟩ _) TEok hO Tm D4ok (PanicOk.body _ _ _) (Hp.le_refl _) 4000 _ _ ?_
        conv => arg 5; cbv
        simp only [Res.ok]
        refine EvG.pure Try.call20 (fun _ => rfl) (h13 _ hc4) ?_
        rintro H9 v hle9 rfl
        refine ⟨.kb true, _, fun _ => (by first | exact rfl | exact ⟨_, rfl, rfl⟩ | exact aggT_den _ _), rfl, ?_⟩
        replace hc4 := Hp.le_trans hc4 hle9
        refine run_sound (E := E4 ⟨oW, oA, oS, oM, oBa, oBo, oBx, oBn, oE, oN, oL, oLe, oAnd, oOr, oNot, oBq, oSq, oMx, oMn, oC, oSz, oAd, oIx, oQu, oRe, oSl, oSr⟩ _) TEok hO Tm D4ok (PanicOk.body _ _ _) (Hp.le_refl _) 4000 _ _ ?_
        conv => arg 5; cbv
        simp only [Res.ok]
        refine RetG.pc TEok C4r rfl rfl rfl (fun _ => rfl) ?_
        first | rfl | (refine congrArg Value.bool ?_; revert hh o2; obtain ⟨rfl, rfl, rfl, rfl, rfl, rfl, rfl, rfl, rfl, rfl, rfl, rfl, rfl, rfl, rfl, rfl, rfl, rfl, rfl, rfl, rfl, rfl, rfl, rfl, rfl, rfl, rfl⟩ := Ops.mk.inj hO; simp [Ops.std])
  · cases p12 <;> cases p21
    · exact absurd o1 (by decide)
    · refine EvG.pure Try.call20 (fun _ => rfl) (h12 _ hc4) ?_
      rintro H9 v hle9 rfl
      refine ⟨.kb false, _, fun _ => (by first | exact rfl | exact ⟨_, rfl, rfl⟩ | exact aggT_den _ _), rfl, ?_⟩
      replace hc4 := Hp.le_trans hc4 hle9
      refine run_sound (E := E4 ⟨oW, oA, oS, oM, oBa, oBo, oBx, oBn, oE, oN, oL, oLe, oAnd, oOr, oNot, oBq, oSq, oMx, oMn, oC, oSz, oAd, oIx, oQu, oRe, oSl, oSr⟩ _) TEok hO Tm D4ok (PanicOk.body _ _ _) (Hp.le_refl _) 4000 _ _ ?_
      conv => arg 5; cbv
      simp only [Res.ok]
      refine EvG.pure Try.call20 (fun _ => rfl) (h21 _ hc4) ?_
      rintro H9 v hle9 rfl
      refine ⟨.kb true, _, fun _ => (by first | exact rfl | exact ⟨_, rfl, rfl⟩ | exact aggT_den _ _), rfl, ?_⟩
      replace hc4 := Hp.le_trans hc4 hle9
      refine run_sound (E := E4 ⟨oW, oA, oS, oM, oBa, oBo, oBx, oBn, oE, oN, oL, oLe, oAnd, oOr, oNot, oBq, oSq, oMx, oMn, oC, oSz, oAd, oIx, oQu, oRe, oSl, oSr⟩ _) TEok hO Tm D4ok (PanicOk.body _ _ _) (Hp.le_refl _) 4000 _ _ ?_
      conv => arg 5; cbv
      simp only [Res.ok]
      refine EvG.pure Try.call20 (fun _ => rfl) (h12 _ hc4) ?_
      rintro H9 v hle9 rfl
      refine ⟨.kb false, _, fun _ => (by first | exact rfl | exact ⟨_, rfl, rfl⟩ | exact aggT_den _ _), rfl, ?_⟩
      replace hc4 := Hp.le_trans hc4 hle9
      refine run_sound (E := E4 ⟨oW, oA, oS, oM, oBa, oBo, oBx, oBn, oE, oN, oL, oLe, oAnd, oOr, oNot, oBq, oSq, oMx, oMn, oC, oSz, oAd, oIx, oQu, oRe, oSl, oSr⟩ _) TEok hO Tm D4ok (PanicOk.body _ _ _) (Hp.le_refl _) 4000 _ _ ?_
      conv => arg 5; cbv
      simp only [Res.ok]
      refine ⟨fun _ => ?_, fun hq => ?_⟩
      rotate_left
      · exfalso
        revert hq hh o2
        obtain ⟨rfl, rfl, rfl, rfl, rfl, rfl, rfl, rfl, rfl, rfl, rfl, rfl, rfl, rfl, rfl, rfl, rfl, rfl, rfl, rfl, rfl, rfl, rfl, rfl, rfl, rfl, rfl⟩ := Ops.mk.inj hO
        simp [Ops.std]
        try omega
      refine EvG.pure Try.call20 (fun _ => rfl) (h12 _ hc4) ?_
      rintro H9 v hle9 rfl
      refine ⟨.kb false, _, fun _ => (by first | exact rfl | exact ⟨_, rfl, rfl⟩ | exact aggT_den _ _), rfl, ?_⟩
      replace hc4 := Hp.le_trans hc4 hle9
      refine run_sound (E := E4 ⟨oW, oA, oS, oM, oBa, oBo, oBx, oBn, oE, oN, oL, oLe, oAnd, oOr, oNot, oBq, oSq, oMx, oMn, oC, oSz, oAd, oIx, oQu, oRe, oSl, oSr⟩ _) TEok hO Tm D4ok (PanicOk.body _ _ _) (Hp.le_refl _) 4000 _ _ ?_
      conv => arg 5; cbv
      simp only [Res.ok]
      refine RetG.pc TEok C4r rfl rfl rfl (fun _ => rfl) ?_
      first | rfl | (refine congrArg Value.bool ?_; revert hh o2; obtain ⟨rfl, rfl, rfl, rfl, rfl, rfl, rfl, rfl, rfl, rfl, rfl, rfl, rfl, rfl, rfl, rfl, rfl, rfl, rfl, rfl, rfl, rfl, rfl, rfl, rfl, rfl, rfl⟩ := Ops.mk.inj hO; simp [Ops.std])
    · refine EvG.pure Try.call20 (fun _ => rfl) (h12 _ hc4) ?_
      rintro H9 v hle9 rfl
      refine ⟨.kb true, _, fun _ => (by first | exact rfl | exact ⟨_, rfl, rfl⟩ | exact aggT_den _ _), rfl, ?_⟩
      replace hc4 := Hp.le_trans hc4 hle9
      refine run_sound (E := E4 ⟨oW, oA, oS, oM, oBa, oBo, oBx, oBn, oE, oN, oL, oLe, oAnd, oOr, oNot, oBq, oSq, oMx, oMn, oC, oSz, oAd, oIx, oQu, oRe, oSl, oSr⟩ _) TEok hO Tm D4ok (PanicOk.body _ _ _) (Hp.le_refl _) 4000 _ _ ?_
      conv => arg 5; cbv
      simp only [Res.ok]
      refine EvG.pure Try.call20 (fun _ => rfl) (h12 _ hc4) ?_
      rintro H9 v hle9 rfl
      refine ⟨.kb true, _, fun _ => (by first | exact rfl | exact ⟨_, rfl, rfl⟩ | exact aggT_den _ _), rfl, ?_⟩
      replace hc4 := Hp.le_trans hc4 hle9
      refine run_sound (E := E4 ⟨oW, oA, oS, oM, oBa, oBo, oBx, oBn, oE, oN, oL, oLe, oAnd, oOr, oNot, oBq, oSq, oMx, oMn, oC, oSz, oAd, oIx, oQu, oRe, oSl, oSr⟩ _) TEok hO Tm D4ok (PanicOk.body _ _ _) (Hp.le_refl _) 4000 _ _ ?_
      conv => arg 5; cbv
      simp only [Res.ok]
      refine EvG.pure Try.call20 (fun _ => rfl) (h21 _ hc4) ?_
      rintro H9 v hle9 rfl
      refine ⟨.kb false, _, fun _ => (by first | exact rfl | exact ⟨_, rfl, rfl⟩ | exact aggT_den _ _), rfl, ?_⟩
      replace hc4 := Hp.le_trans hc4 hle9
      refine run_sound (E := E4 ⟨oW, oA, oS, oM, oBa, oBo, oBx, oBn, oE, oN, oL, oLe, oAnd, oOr, oNot, oBq, oSq, oMx, oMn, oC, oSz, oAd, oIx, oQu, oRe, oSl, oSr⟩ _) TEok hO Tm D4ok (PanicOk.body _ _ _) (Hp.le_refl _) 4000 _ _ ?_
      conv => arg 5; cbv
      simp only [Res.ok]
      refine ⟨fun _ => ?_, fun hq => ?_⟩
      rotate_left
      · exfalso
        revert hq hh o2
        obtain ⟨rfl, rfl, rfl, rfl, rfl, rfl, rfl, rfl, rfl, rfl, rfl, rfl, rfl, rfl, rfl, rfl, rfl, rfl, rfl, rfl, rfl, rfl, rfl, rfl, rfl, rfl, rfl⟩ := Ops.mk.inj hO
        simp [Ops.std]
        try omega
      refine EvG.pure Try.call20 (fun _ => rfl) (h12 _ hc4) ?_
      rintro H9 v hle9 rfl
      refine ⟨.kb true, _, fun _ => (by first | exact rfl | exact ⟨_, rfl, rfl⟩ | exact aggT_den _ _), rfl, ?_⟩
      replace hc4 := Hp.le_trans hc4 hle9
      refine run_sound (E := E4 ⟨oW, oA, oS, oM, oBa, oBo, oBx, oBn, oE, oN, oL, oLe, oAnd, oOr, oNot, oBq, oSq, oMx, oMn, oC, oSz, oAd, oIx, oQu, oRe, oSl, oSr⟩ _) TEok hO Tm D4ok (PanicOk.body _ _ _) (Hp.le_refl _) 4000 _ _ ?_
      conv => arg 5; cbv
      simp only [Res.ok]
      cases p23
      · refine EvG.pure Try.call20 (fun _ => rfl) (h23 _ hc4) ?_
        rintro H9 v hle9 rfl
        refine ⟨.kb false, _, fun _ => (by first | exact rfl | exact ⟨_, rfl, rfl⟩ | exact aggT_den _ _), rfl, ?_⟩
        replace hc4 := Hp.le_trans hc4 hle9
        refine run_sound (E := E4 ⟨oW, oA, oS, oM, oBa, oBo, oBx, oBn, oE, oN, oL, oLe, oAnd, oOr, oNot, oBq, oSq, oMx, oMn, oC, oSz, oAd, oIx, oQu, oRe, oSl, oSr⟩ _) TEok hO Tm D4ok (PanicOk.body _ _ _) (Hp.le_refl _) 4000 _ _ ?_
        conv => arg 5; cbv
        simp only [Res.ok]
        refine RetG.pc TEok C4r rfl rfl rfl (fun _ => rfl) ?_
        first | rfl | (refine congrArg Value.bool ?_; revert hh o2; obtain ⟨rfl, rfl, rfl, rfl, rfl, rfl, rfl, rfl, rfl, rfl, rfl, rfl, rfl, rfl, rfl, rfl, rfl, rfl, rfl, rfl, rfl, rfl, rfl, rfl, rfl, rfl, rfl⟩ := Ops.mk.inj hO; simp [Ops.std])
      · have o4 : p13 = true := by simpa using o3
        subst o4
        refine EvG.pure Try.call20 (fun _ => rfl) (h23 _ hc4) ?_
        rintro H9 v hle9 rfl
        refine ⟨.kb true, _, fun _ => (by first | exact rfl | exact ⟨_, rfl, rfl⟩ | exact aggT_den _ _), rfl, ?_⟩
        replace hc4 := Hp.le_trans hc4 hle9
        refine run_sound (E := E4 ⟨oW, oA, oS, oM, oBa, oBo, oBx, oBn, oE, oN, oL, oLe, oAnd, oOr, oNot, oBq, oSq, oMx, oMn, oC, oSz, oAd, oIx, oQu, oRe, oSl, oSr⟩ _) TEok hO Tm D4ok (PanicOk.body _ _ _) (Hp.le_refl _) 4000 _ _ ?_
        conv => arg 5; cbv
        simp only [Res.ok]
        refine EvG.pure Try.call20 (fun _ => rfl) (h13 _ hc4) ?_
        rintro H9 v hle9 rfl
        refine ⟨.kb true, _, fun _ => (by first | exact rfl | exact ⟨_, rfl, rfl⟩ | exact aggT_den _ _), rfl, ?_⟩
        replace hc4 := Hp.le_trans hc4 hle9
        refine run_sound (E := E4 ⟨oW, oA, oS, oM, oBa, oBo, oBx, oBn, oE, oN, oL, oLe, oAnd, oOr, oNot, oBq, oSq, oMx, oMn, oC, oSz, oAd, oIx, oQu, oRe, oSl, oSr⟩ _) TEok hO Tm D4ok (PanicOk.body _ _ _) (Hp.le_refl _) 4000 _ _ ?_
        conv => arg 5; cbv
        simp only [Res.ok]
        refine RetG.pc TEok C4r rfl rfl rfl (fun _ => rfl) ?_
        first | rfl | (refine congrArg Value.bool ?_; revert hh o2; obtain ⟨rfl, rfl, rfl, rfl, rfl, rfl, rfl, rfl, rfl, rfl, rfl, rfl, rfl, rfl, rfl, rfl, rfl, rfl, rfl, rfl, rfl, rfl, rfl, rfl, rfl, rfl, rfl⟩ := Ops.mk.inj hO; simp [Ops.std])
    · refine EvG.pure Try.call20 (fun _ => rfl) (h12 _ hc4) ?_
      rintro H9 v hle9 rfl
      refine ⟨.kb true, _, fun _ => (by first | exact rfl | exact ⟨_, rfl, rfl⟩ | exact aggT_den _ _), rfl, ?_⟩
      replace hc4 := Hp.le_trans hc4 hle9
      refine run_sound (E := E4 ⟨oW, oA, oS, oM, oBa, oBo, oBx, oBn, oE, oN, oL, oLe, oAnd, oOr, oNot, oBq, oSq, oMx, oMn, oC, oSz, oAd, oIx, oQu, oRe, oSl, oSr⟩ _) TEok hO Tm D4ok (PanicOk.body _ _ _) (Hp.le_refl _) 4000 _ _ ?_
      conv => arg 5; cbv
      simp only [Res.ok]
      refine EvG.pure Try.call20 (fun _ => rfl) (h12 _ hc4) ?_
      rintro H9 v hle9 rfl
      refine ⟨.kb true, _, fun _ => (by first | exact rfl | exact ⟨_, rfl, rfl⟩ | exact aggT_den _ _), rfl, ?_⟩
      replace hc4 := Hp.le_trans hc4 hle9
      refine run_sound (E := E4 ⟨oW, oA, oS, oM, oBa, oBo, oBx, oBn, oE, oN, oL, oLe, oAnd, oOr, oNot, oBq, oSq, oMx, oMn, oC, oSz, oAd, oIx, oQu, oRe, oSl, oSr⟩ _) TEok hO Tm D4ok (PanicOk.body _ _ _) (Hp.le_refl _) 4000 _ _ ?_
      conv => arg 5; cbv
      simp only [Res.ok]
      refine EvG.pure Try.call20 (fun _ => rfl) (h21 _ hc4) ?_
      rintro H9 v hle9 rfl
      refine ⟨.kb true, _, fun _ => (by first | exact rfl | exact ⟨_, rfl, rfl⟩ | exact aggT_den _ _), rfl, ?_⟩
      replace hc4 := Hp.le_trans hc4 hle9
      refine run_sound (E := E4 ⟨oW, oA, oS, oM, oBa, oBo, oBx, oBn, oE, oN, oL, oLe, oAnd, oOr, oNot, oBq, oSq, oMx, oMn, oC, oSz, oAd, oIx, oQu, oRe, oSl, oSr⟩ _) TEok hO Tm D4ok (PanicOk.body _ _ _) (Hp.le_refl _) 4000 _ _ ?_
      conv => arg 5; cbv
      simp only [Res.ok]
      refine ⟨fun _ => ?_, fun hq => ?_⟩
      rotate_left
      · exfalso
        revert hq hh o2
        obtain ⟨rfl, rfl, rfl, rfl, rfl, rfl, rfl, rfl, rfl, rfl, rfl, rfl, rfl, rfl, rfl, rfl, rfl, rfl, rfl, rfl, rfl, rfl, rfl, rfl, rfl, rfl, rfl⟩ := Ops.mk.inj hO
        simp [Ops.std]
        try omega
      refine EvG.pure Try.call20 (fun _ => rfl) (h12 _ hc4) ?_
      rintro H9 v hle9 rfl
      refine ⟨.kb true, _, fun _ => (by first | exact rfl | exact ⟨_, rfl, rfl⟩ | exact aggT_den _ _), rfl, ?_⟩
      replace hc4 := Hp.le_trans hc4 hle9
      refine run_sound (E := E4 ⟨oW, oA, oS, oM, oBa, oBo, oBx, oBn, oE, oN, oL, oLe, oAnd, oOr, oNot, oBq, oSq, oMx, oMn, oC, oSz, oAd, oIx, oQu, oRe, oSl, oSr⟩ _) TEok hO Tm D4ok (PanicOk.body _ _ _) (Hp.le_refl _) 4000 _ _ ?_
      conv => arg 5; cbv
      simp only [Res.ok]
      cases p23
      · refine EvG.pure Try.call20 (fun _ => rfl) (h23 _ hc4) ?_
        rintro H9 v hle9 rfl
        refine ⟨.kb false, _, fun _ => (by first | exact rfl | exact ⟨_, rfl, rfl⟩ | exact aggT_den _ _), rfl, ?_⟩
        replace hc4 := Hp.le_trans hc4 hle9
        refine run_sound (E := E4 ⟨oW, oA, oS, oM, oBa, oBo, oBx, oBn, oE, oN, oL, oLe, oAnd, oOr, oNot, oBq, oSq, oMx, oMn, oC, oSz, oAd, oIx, oQu, oRe, oSl, oSr⟩ _) TEok hO Tm D4ok (PanicOk.body _ _ _) (Hp.le_refl _) 4000 _ _ ?_
        conv => arg 5; cbv
        simp only [Res.ok]
        refine RetG.pc TEok C4r rfl rfl rfl (fun _ => rfl) ?_
        first | rfl | (refine congrArg Value.bool ?_; revert hh o2; obtain ⟨rfl, rfl, rfl, rfl, rfl, rfl, rfl, rfl, rfl, rfl, rfl, rfl, rfl, rfl, rfl, rfl, rfl, rfl, rfl, rfl, rfl, rfl, rfl, rfl, rfl, rfl, rfl⟩ := Ops.mk.inj hO; simp [Ops.std])
      · have o4 : p13 = true := by simpa using o3
        subst o4
        refine EvG.pure Try.call20 (fun _ => rfl) (h23 _ hc4) ?_
        rintro H9 v hle9 rfl
        refine ⟨.kb true, _, fun _ => (by first | exact rfl | exact ⟨_, rfl, rfl⟩ | exact aggT_den _ _), rfl, ?_⟩
        replace hc4 := Hp.le_trans hc4 hle9
        refine run_sound (E := E4 ⟨oW, oA, oS, oM, oBa, oBo, oBx, oBn, oE, oN, oL, oLe, oAnd, oOr, oNot, oBq, oSq, oMx, oMn, oC, oSz, oAd, oIx, oQu, oRe, oSl, oSr⟩ _) TEok hO Tm D4ok (PanicOk.body _ _ _) (Hp.le_refl _) 4000 _ _ ?_
        conv => arg 5; cbv
        simp only [Res.ok]
        refine EvG.pure Try.call20 (fun _ => rfl) (h13 _ hc4) ?_
        rintro H9 v hle9 rfl
        refine ⟨.kb true, _, fun _ => (by first | exact rfl | exact ⟨_, rfl, rfl⟩ | exact aggT_den _ _), rfl, ?_⟩
        replace hc4 := Hp.le_trans hc4 hle9
        refine run_sound (E := E4 ⟨oW, oA, oS, oM, oBa, oBo, oBx, oBn, oE, oN, oL, oLe, oAnd, oOr, oNot, oBq, oSq, oMx, oMn, oC, oSz, oAd, oIx, oQu, oRe, oSl, oSr⟩ _) TEok hO Tm D4ok (PanicOk.body _ _ _) (Hp.le_refl _) 4000 _ _ ?_
        conv => arg 5; cbv
        simp only [Res.ok]
        refine RetG.pc TEok C4r rfl rfl rfl (fun _ => rfl) ?_
        first | rfl | (refine congrArg Value.bool ?_; revert hh o2; obtain ⟨rfl, rfl, rfl, rfl, rfl, rfl, rfl, rfl, rfl, rfl, rfl, rfl, rfl, rfl, rfl, rfl, rfl, rfl, rfl, rfl, rfl, rfl, rfl, rfl, rfl, rfl, rfl⟩ := Ops.mk.inj hO; simp [Ops.std])
theorem Order_law (A1 : Option Addr) (n1 c1 : Nat) (bs1 : List UInt8) (A2 : Option Addr) (n2 c2 : Nat) (bs2 : List UInt8) (A3 : Option Addr) (n3 c3 : Nat) (bs3 : List UInt8) (H : Hp) (hr1 : Rw H 1 A1 n1 (bs1.map u8V)) (hr2 : Rw H 1 A2 n2 (bs2.map u8V)) (hr3 : Rw H 1 A3 n3 (bs3.map u8V)) :
    PC Try.prog 4 [.slice A1 n1 c1, .slice A2 n2 c2, .slice A3 n3 c3] H fun _ v => v = .bool true := Order_pc _ _ _ _ _ _ _ _ _ _ _ _ H hr1 hr2 hr3
end Go.Sx
