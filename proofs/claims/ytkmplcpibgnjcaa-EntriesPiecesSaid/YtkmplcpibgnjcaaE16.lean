/- The statement EntriesCompact, walked. -/
import Derived.Test.YtkmplcpibgnjcaaE14
import Derived.Test.YtkmplcpibgnjcaaE15
namespace Go.Sx
open Go.Proofs Go.RowKit

theorem Compact_cut (l : LV) (i : Int) (H : Hp) (hl : l.ok H) (hf : l.fine) (h0 : l.b ≤ i) (h1 : i ≤ l.b + l.n) : PC Try.prog 14 [aggV l.cs, .int .i64 i] H fun H' v => ∃ c : LV, v = .tuple #[aggV c.cs, .int .i64 0] ∧ c.ok H' ∧ Cut l c i := by
  obtain ⟨g1, g2, g3⟩ := id hf
  refine (Compact_pc l i H hl hf ⟨by omega, by omega⟩).mono fun H' v _ h => ?_
  unfold CompactR at h
  rw [if_pos (by rw [LV.term_is hf ⟨by omega, by omega⟩]; simp [h0, h1])] at h
  obtain ⟨c, hv, hok, e1, e2, e3, e4⟩ := h
  exact ⟨c, hv, hok, h0, h1, e1, e2, e3, e4⟩
theorem Merge_good (l : LV) (prev term : Int) (A2 : Option Addr) (n2 c2 : Nat) (es2 : List Entry) (H : Hp) (hl : l.ok H) (hf : l.fine) (h2 : SVok H A2 n2 c2 es2) (hp : In64 prev) (hb : l.n + n2 ≤ 1048576) (hg : ¬ mergeBad l prev term es2) :
    PC Try.prog 18 [aggV l.cs, .int .i64 prev, .int .i64 term, .slice A2 n2 c2] H fun H' v => ∃ m : LV, v = .tuple #[aggV m.cs, .int .i64 (prev + es2.length), .bool true] ∧ m.ok H' ∧ SameBut l m (mergeEs l prev es2) :=
  (Merge_pc l prev term A2 n2 c2 es2 H hl hf h2 hp hb).mono fun H' v _ h => by
    rcases h with ⟨h, _⟩ | ⟨_, m, h1, h2, h3⟩
    · exact absurd h hg
    · exact ⟨m, h1, h2, h3⟩
theorem not_bad {l : LV} {p t : Int} {es : List Entry} (h0 : 0 ≤ p) (h1 : l.b ≤ p) (h2 : p ≤ l.b + l.n) (ht : l.term p = (t, true)) : ¬ mergeBad l p t es := by
  unfold mergeBad
  rw [ht]
  rintro (h | h | h | h)
  · omega
  · omega
  · exact h.2 ⟨rfl, rfl⟩
  · omega
noncomputable def C3 : Code := fbody Try.f3
theorem C3b : Try.f3.body = some C3 := by kernel_rfl
theorem C3r : Try.f3.results.toList = [.tmp 8] := by kernel_rfl
def D3 : List (List Nat) := [[0, 0, 1, 1, 1, 1, 1, 1]]
theorem D3ok : drOk C3 D3 = true := by kernel_rfl
noncomputable def E3 (O : Ops) (H : Hp) : Env := ⟨O, H, TE, C3, [.tmp 8], D3⟩
set_option maxHeartbeats 1000000 in
set_option maxRecDepth 100000 in
theorem CompactLaw_pc (A1 : Option Addr) (n1 c1 : Nat) (bs1 : List UInt8) (A2 : Option Addr) (n2 c2 : Nat) (bs2 : List UInt8) (to prev : Int) (H : Hp) (hr1 : Rw H 1 A1 n1 (bs1.map u8V)) (hr2 : Rw H 1 A2 n2 (bs2.map u8V)) :
    PC Try.prog 3 [.slice A1 n1 c1, .slice A2 n2 c2, .int .i64 to, .int .i64 prev] H fun _ v => v = .bool true := by
  have hl1 : n1 = bs1.length := by have := hr1.1; simpa using this.symm
  have hl2 : n2 = bs2.length := by have := hr2.1; simpa using this.symm
  refine PC.enter [.c (.v (.slice A1 n1 c1)), .c (.v (.slice A2 n2 c2)), .c (.v (.int .i64 to)), .c (.v (.int .i64 prev))] Try.func3 C3b rfl 151 Try.ntmps3 (by simp) fun w hw => ?_
  refine ops_open fun oW oA oS oM oBa oBo oBx oBn oE oN oL oLe oAnd oOr oNot oBq oSq oMx oMn oC oSz oAd oIx oQu oRe oSl oSr hO => ?_
  have hnt : oNot true = false := by
    obtain ⟨rfl, rfl, rfl, rfl, rfl, rfl, rfl, rfl, rfl, rfl, rfl, rfl, rfl, rfl, rfl, rfl, rfl, rfl, rfl, rfl, rfl, rfl, rfl, rfl, rfl, rfl, rfl⟩ := Ops.mk.inj hO
    rfl
  have hnf : oNot false = true := by
    obtain ⟨rfl, rfl, rfl, rfl, rfl, rfl, rfl, rfl, rfl, rfl, rfl, rfl, rfl, rfl, rfl, rfl, rfl, rfl, rfl, rfl, rfl, rfl, rfl, rfl, rfl, rfl, rfl⟩ := Ops.mk.inj hO
    rfl
  refine run_sound (E := E3 ⟨oW, oA, oS, oM, oBa, oBo, oBx, oBn, oE, oN, oL, oLe, oAnd, oOr, oNot, oBq, oSq, oMx, oMn, oC, oSz, oAd, oIx, oQu, oRe, oSl, oSr⟩ _) TEok hO Tm D3ok (PanicOk.body _ _ _) (Hp.le_refl _) 4000 _ _ ?_
  conv => arg 5; cbv
  simp only [Res.ok]
  refine EvG.pure Try.call12 (fun _ => rfl) (begun_pc _) ?_
  rintro H1 v hle1 rfl
  refine ⟨.kb true, _, fun _ => (by first | exact rfl | exact ⟨_, rfl, rfl⟩ | exact aggT_den _ _), rfl, ?_⟩
  refine run_sound (E := E3 ⟨oW, oA, oS, oM, oBa, oBo, oBx, oBn, oE, oN, oL, oLe, oAnd, oOr, oNot, oBq, oSq, oMx, oMn, oC, oSz, oAd, oIx, oQu, oRe, oSl, oSr⟩ _) TEok hO Tm D3ok (PanicOk.body _ _ _) (Hp.le_refl _) 4000 _ _ ?_
  conv => arg 5; cbv
  simp only [Res.ok]
  refine ⟨fun hh => (by rw [hnt] at hh; cases hh), fun _ => ⟨fun hh => ?_, fun hh => ?_⟩⟩
  · exact RetG.pc TEok C3r rfl rfl rfl (fun _ => rfl) rfl
  have hn : n1 ≤ 40 ∧ n2 ≤ 40 := by
    obtain ⟨rfl, rfl, rfl, rfl, rfl, rfl, rfl, rfl, rfl, rfl, rfl, rfl, rfl, rfl, rfl, rfl, rfl, rfl, rfl, rfl, rfl, rfl, rfl, rfl, rfl, rfl, rfl⟩ := Ops.mk.inj hO
    simp [Ops.std] at hh
    omega
  obtain ⟨hn1, hn2⟩ := hn
  clear hh
  refine EvG.pure Try.call13 (fun _ => rfl) (made0 hr1 (by omega) _ hle1) ?_
  rintro H2 v hle2 ⟨l, rfl, hl, hlb, hlbt, -, hle⟩
  refine ⟨.t (aggT l.cs), _, fun _ => (by first | exact rfl | exact ⟨_, rfl, rfl⟩ | exact aggT_den _ _), rfl, ?_⟩
  have hln : l.n = n1 := by rw [hl.1, hle, madeE_len, hl1]
  have hlf : l.fine := ⟨by omega, by omega, by omega⟩
  obtain ⟨q, hq, hq0, hq2⟩ : ∃ q, oMn (oMx to 0) (oC n1) = q ∧ 0 ≤ q ∧ q ≤ n1 := by
    refine ⟨_, rfl, ?_, ?_⟩
    · obtain ⟨rfl, rfl, rfl, rfl, rfl, rfl, rfl, rfl, rfl, rfl, rfl, rfl, rfl, rfl, rfl, rfl, rfl, rfl, rfl, rfl, rfl, rfl, rfl, rfl, rfl, rfl, rfl⟩ := Ops.mk.inj hO
      show (0 : Int) ≤ if (n1 : Int) < (if 0 > to then 0 else to) then (n1 : Int) else if 0 > to then 0 else to
      omega
    · obtain ⟨rfl, rfl, rfl, rfl, rfl, rfl, rfl, rfl, rfl, rfl, rfl, rfl, rfl, rfl, rfl, rfl, rfl, rfl, rfl, rfl, rfl, rfl, rfl, rfl, rfl, rfl, rfl⟩ := Ops.mk.inj hO
      show (if (n1 : Int) < (if 0 > to then 0 else to) then (n1 : Int) else if 0 > to then 0 else to) ≤ n1
      omega
  refine run_sound (E := E3 ⟨oW, oA, oS, oM, oBa, oBo, oBx, oBn, oE, oN, oL, oLe, oAnd, oOr, oNot, oBq, oSq, oMx, oMn, oC, oSz, oAd, oIx, oQu, oRe, oSl, oSr⟩ _) TEok hO Tm D3ok (PanicOk.body _ _ _) (Hp.le_refl _) 4000 _ _ ?_
  conv => arg 5; cbv
  simp only [Res.ok]
  rw [hq]
  refine EvG.pure Try.call14 (fun _ => rfl) (Compact_cut l q _ hl hlf (by omega) (by omega)) ?_
  rintro H3 v hle3 ⟨c, rfl, hc, hcut⟩
  refine ⟨.tup [aggT c.cs, .c (.v (.int .i64 0))], _, fun _ => (by first | exact rfl | exact ⟨_, rfl, rfl⟩ | exact aggT_den _ _), rfl, ?_⟩
  replace hl := hl.mono hle3
  have hcb := hcut.b
  have hcn : c.n = c.es.length := hc.1
  have hcln : (c.n : Int) = n1 - q := by rw [hcn, hcut.es, List.length_drop, hlb, ← hl.1, hln]; omega
  have hcf : c.fine := ⟨by omega, by omega, by omega⟩
  have hend : c.lastW = l.lastW := by rw [LV.lastW_eq hcf, LV.lastW_eq hlf]; omega
  have hlw0 : l.lastW = n1 := by rw [LV.lastW_eq hlf]; omega
  have cL := fun H' => Last_pc l H'
  have cC := fun H' => Last_pc c H'
  rw [hend] at cC
  obtain ⟨lw, hlw⟩ : ∃ x, l.lastW = x := ⟨_, rfl⟩
  rw [hlw] at cL cC hlw0
  have fL := fun (H' : Hp) (h : Hp.le H3 H') => Conf_pc l H' (hl.mono h) (by omega)
  have fC := fun (H' : Hp) (h : Hp.le H3 H') => Conf_pc c H' (hc.mono h) (by omega)
  rw [hcut.es, hcut.j, confOf_cut] at fC
  obtain ⟨J, hJ⟩ : ∃ J, confOf l.es l.j = J := ⟨_, rfl⟩
  rw [hJ] at fL fC
  have hc3 := Hp.le_refl H3
  refine run_sound (E := E3 ⟨oW, oA, oS, oM, oBa, oBo, oBx, oBn, oE, oN, oL, oLe, oAnd, oOr, oNot, oBq, oSq, oMx, oMn, oC, oSz, oAd, oIx, oQu, oRe, oSl, oSr⟩ _) TEok hO Tm D3ok (PanicOk.body _ _ _) (Hp.le_refl _) 4000 _ _ ?_
  conv => arg 5; cbv
  simp only [Res.ok]
  refine ⟨fun hh => ?_, fun _ => ?_⟩
  · exfalso
    revert hh
    obtain ⟨rfl, rfl, rfl, rfl, rfl, rfl, rfl, rfl, rfl, rfl, rfl, rfl, rfl, rfl, rfl, rfl, rfl, rfl, rfl, rfl, rfl, rfl, rfl, rfl, rfl, rfl, rfl⟩ := Ops.mk.inj hO
    simp [Ops.std]
  refine EvG.pure Try.call15 (fun _ => rfl) (cC _) ?_
  rintro H4 v hle4 rfl
  refine ⟨.t (.c (.v (.int .i64 lw))), _, fun _ => (by first | exact rfl | exact ⟨_, rfl, rfl⟩ | exact aggT_den _ _), rfl, ?_⟩
  replace hc3 := Hp.le_trans hc3 hle4
  refine run_sound (E := E3 ⟨oW, oA, oS, oM, oBa, oBo, oBx, oBn, oE, oN, oL, oLe, oAnd, oOr, oNot, oBq, oSq, oMx, oMn, oC, oSz, oAd, oIx, oQu, oRe, oSl, oSr⟩ _) TEok hO Tm D3ok (PanicOk.body _ _ _) (Hp.le_refl _) 4000 _ _ ?_
  conv => arg 5; cbv
  simp only [Res.ok]
  refine EvG.pure Try.call15 (fun _ => rfl) (cL _) ?_
  rintro H4 v hle4 rfl
  refine ⟨.t (.c (.v (.int .i64 lw))), _, fun _ => (by first | exact rfl | exact ⟨_, rfl, rfl⟩ | exact aggT_den _ _), rfl, ?_⟩
  replace hc3 := Hp.le_trans hc3 hle4
  refine run_sound (E := E3 ⟨oW, oA, oS, oM, oBa, oBo, oBx, oBn, oE, oN, oL, oLe, oAnd, oOr, oNot, oBq, oSq, oMx, oMn, oC, oSz, oAd, oIx, oQu, oRe, oSl, oSr⟩ _) TEok hO Tm D3ok (PanicOk.body _ _ _) (Hp.le_refl _) 4000 _ _ ?_
  conv => arg 5; cbv
  simp only [Res.ok]
  refine ⟨fun hh => ?_, fun _ => ?_⟩
  · exfalso
    revert hh
    obtain ⟨rfl, rfl, rfl, rfl, rfl, rfl, rfl, rfl, rfl, rfl, rfl, rfl, rfl, rfl, rfl, rfl, rfl, rfl, rfl, rfl, rfl, rfl, rfl, rfl, rfl, rfl, rfl⟩ := Ops.mk.inj hO
    simp [Ops.std]
  refine EvG.pure Try.call16 (fun _ => rfl) (fC _ hc3) ?_
  rintro H4 v hle4 rfl
  refine ⟨.t (aggT J.cs), _, fun _ => (by first | exact rfl | exact ⟨_, rfl, rfl⟩ | exact aggT_den _ _), rfl, ?_⟩
  replace hc3 := Hp.le_trans hc3 hle4
  refine run_sound (E := E3 ⟨oW, oA, oS, oM, oBa, oBo, oBx, oBn, oE, oN, oL, oLe, oAnd, oOr, oNot, oBq, oSq, oMx, oMn, oC, oSz, oAd, oIx, oQu, oRe, oSl, oSr⟩ _) TEok hO Tm D3ok (PanicOk.body _ _ _) (Hp.le_refl _) 4000 _ _ ?_
  conv => arg 5; cbv
  simp only [Res.ok]
  refine EvG.pure Try.call16 (fun _ => rfl) (fL _ hc3) ?_
  rintro H5 v hle5 rfl
  refine ⟨.t (aggT J.cs), _, fun _ => (by first | exact rfl | exact ⟨_, rfl, rfl⟩ | exact aggT_den _ _), rfl, ?_⟩
  replace hc3 := Hp.le_trans hc3 hle5
  refine run_sound (E := E3 ⟨oW, oA, oS, oM, oBa, oBo, oBx, oBn, oE, oN, oL, oLe, oAnd, oOr, oNot, oBq, oSq, oMx, oMn, oC, oSz, oAd, oIx, oQu, oRe, oSl, oSr⟩ _) TEok hO Tm D3ok (PanicOk.body _ _ _) (Hp.le_refl _) 4000 _ _ ?_
  conv => arg 5; cbv
  simp only [Res.ok]
  refine ⟨fun hh => ?_, fun _ => ?_⟩
  · exfalso
    revert hh
    obtain ⟨rfl, rfl, rfl, rfl, rfl, rfl, rfl, rfl, rfl, rfl, rfl, rfl, rfl, rfl, rfl, rfl, rfl, rfl, rfl, rfl, rfl, rfl, rfl, rfl, rfl, rfl, rfl⟩ := Ops.mk.inj hO
    simp [Ops.std]
  refine LoopG.mk [0, 1, 2, 3, 9, 10, 12] (fun y : Nat × Hp => q + y.1 ≤ lw + 1 ∧ Hp.le H5 y.2)
    (fun y => ⟨151, [(0, SlV A1 n1 c1), (1, SlV A2 n2 c2), (2, iV q), (3, iV prev), (9, .t (.c (.p 0 0))), (10, .t (.c (.p 1 0))), (12, iV (q + y.1))], [], [l.cs.map .v, c.cs.map .v]⟩)
    (fun y => (Gh.start w H).seth y.2) (fun y => (lw + 1 - (q + y.1)).toNat) (0, H5) rfl ⟨_, rfl⟩ ⟨by simp; omega, Hp.le_refl _⟩ (by rw [show q + ((0 : Nat) : Int) = q by omega]; rfl) rfl ?_
  rintro ⟨j, HA⟩ ⟨hj, hleA⟩
  simp only at hj hleA ⊢
  obtain ⟨i, hi⟩ : ∃ i : Int, q + (j : Int) = i := ⟨_, rfl⟩
  rw [hi]
  have hcA := Hp.le_trans hc3 hleA
  refine run_sound (E := E3 ⟨oW, oA, oS, oM, oBa, oBo, oBx, oBn, oE, oN, oL, oLe, oAnd, oOr, oNot, oBq, oSq, oMx, oMn, oC, oSz, oAd, oIx, oQu, oRe, oSl, oSr⟩ _) TEok hO Tm D3ok (PanicOk.lq (PanicOk.body _ _ _)) (Hp.le_refl _) 4000 _ _ ?_
  conv => arg 5; cbv
  simp only [Res.ok]
  refine EvG.pure Try.call15 (fun _ => rfl) (cL _) ?_
  rintro HB v hleB rfl
  refine ⟨.t (.c (.v (.int .i64 lw))), _, fun _ => (by first | exact rfl | exact ⟨_, rfl, rfl⟩ | exact aggT_den _ _), rfl, ?_⟩
  replace hcA := Hp.le_trans hcA hleB
  refine run_sound (E := E3 ⟨oW, oA, oS, oM, oBa, oBo, oBx, oBn, oE, oN, oL, oLe, oAnd, oOr, oNot, oBq, oSq, oMx, oMn, oC, oSz, oAd, oIx, oQu, oRe, oSl, oSr⟩ _) TEok hO Tm D3ok (PanicOk.lq (PanicOk.body _ _ _)) (Hp.le_refl _) 4000 _ _ ?_
  conv => arg 5; cbv
  simp only [Res.ok]
  refine ⟨fun hh => ?_, fun hh => ?_⟩
  · have hin : i ≤ lw := by
      obtain ⟨rfl, rfl, rfl, rfl, rfl, rfl, rfl, rfl, rfl, rfl, rfl, rfl, rfl, rfl, rfl, rfl, rfl, rfl, rfl, rfl, rfl, rfl, rfl, rfl, rfl, rfl, rfl⟩ := Ops.mk.inj hO
      simpa [Ops.std] using hh
    have tL := Term_pc l i HB (hl.mono hcA)
    have tC := fun (H' : Hp) (h : Hp.le HB H') => Term_pc c i H' ((hc.mono hcA).mono h)
    rw [Cut.term hlf hcf hl.1 hcn hcut ⟨by omega, by omega⟩ (by omega)] at tC
    have his := LV.term_is (i := i) hlf ⟨by omega, by omega⟩
    obtain ⟨⟨t, is⟩, ht⟩ : ∃ y, l.term i = y := ⟨_, rfl⟩
    rw [ht] at tL tC his
    have his : is = true := by simp only at his; rw [his]; simp; omega
    subst his
    have hi1 : oA .i64 i 1 = q + ((j + 1 : Nat) : Int) := by
      obtain ⟨rfl, rfl, rfl, rfl, rfl, rfl, rfl, rfl, rfl, rfl, rfl, rfl, rfl, rfl, rfl, rfl, rfl, rfl, rfl, rfl, rfl, rfl, rfl, rfl, rfl, rfl, rfl⟩ := Ops.mk.inj hO
      rw [show q + ((j + 1 : Nat) : Int) = i + 1 by omega]
      exact w64 (by omega) (by omega)
    refine EvG.pure Try.call17 (fun _ => rfl) (tL) ?_
    rintro HC v hleC rfl
    refine ⟨.tup [.c (.v (.int .i64 t)), .c (.v (.bool true))], _, fun _ => (by first | exact rfl | exact ⟨_, rfl, rfl⟩ | exact aggT_den _ _), rfl, ?_⟩
    refine run_sound (E := E3 ⟨oW, oA, oS, oM, oBa, oBo, oBx, oBn, oE, oN, oL, oLe, oAnd, oOr, oNot, oBq, oSq, oMx, oMn, oC, oSz, oAd, oIx, oQu, oRe, oSl, oSr⟩ _) TEok hO Tm D3ok (PanicOk.lq (PanicOk.body _ _ _)) (Hp.le_refl _) 4000 _ _ ?_
    conv => arg 5; cbv
    simp only [Res.ok]
    refine EvG.pure Try.call17 (fun _ => rfl) (tC _ hleC) ?_
    rintro HD v hleD rfl
    refine ⟨.tup [.c (.v (.int .i64 t)), .c (.v (.bool true))], _, fun _ => (by first | exact rfl | exact ⟨_, rfl, rfl⟩ | exact aggT_den _ _), rfl, ?_⟩
    refine run_sound (E := E3 ⟨oW, oA, oS, oM, oBa, oBo, oBx, oBn, oE, oN, oL, oLe, oAnd, oOr, oNot, oBq, oSq, oMx, oMn, oC, oSz, oAd, oIx, oQu, oRe, oSl, oSr⟩ _) TEok hO Tm D3ok (PanicOk.lq (PanicOk.body _ _ _)) (Hp.le_refl _) 4000 _ _ ?_
    conv => arg 5; cbv
    simp only [Res.ok]
    refine ⟨fun hh2 => ?_, fun _ => ?_⟩
    · exfalso
      revert hh2
      obtain ⟨rfl, rfl, rfl, rfl, rfl, rfl, rfl, rfl, rfl, rfl, rfl, rfl, rfl, rfl, rfl, rfl, rfl, rfl, rfl, rfl, rfl, rfl, rfl, rfl, rfl, rfl, rfl⟩ := Ops.mk.inj hO
      simp [Ops.std]
    rw [hi1]
    exact FinG.round [0, 1, 2, 3, 9, 10, 12] (j + 1, HD) ⟨by simp only; omega, Hp.le_trans hleA (Hp.le_trans hleB (Hp.le_trans hleC hleD))⟩ (by simp only; omega) rfl rfl
  refine FinG.leave rfl rfl ?_
  have had : ∃ p, oA .i64 q (oMn (oMx prev 0) (oS .i64 (oC n1) q)) = p ∧ q ≤ p ∧ p ≤ n1 := by
    refine ⟨_, rfl, ?_⟩
    obtain ⟨rfl, rfl, rfl, rfl, rfl, rfl, rfl, rfl, rfl, rfl, rfl, rfl, rfl, rfl, rfl, rfl, rfl, rfl, rfl, rfl, rfl, rfl, rfl, rfl, rfl, rfl, rfl⟩ := Ops.mk.inj hO
    show q ≤ IntKind.i64.wrap (q + if IntKind.i64.wrap ((n1 : Int) - q) < (if 0 > prev then 0 else prev) then IntKind.i64.wrap ((n1 : Int) - q) else if 0 > prev then 0 else prev) ∧
      IntKind.i64.wrap (q + if IntKind.i64.wrap ((n1 : Int) - q) < (if 0 > prev then 0 else prev) then IntKind.i64.wrap ((n1 : Int) - q) else if 0 > prev then 0 else prev) ≤ n1
    rw [w64 (n := (n1 : Int) - q) (by omega) (by omega)]
    obtain ⟨z, hz, hz0, hz1⟩ : ∃ z, (if (n1 : Int) - q < (if 0 > prev then 0 else prev) then (n1 : Int) - q else if 0 > prev then 0 else prev) = z ∧ 0 ≤ z ∧ z ≤ n1 - q := ⟨_, rfl, by omega, by omega⟩
    rw [hz, w64 (by omega) (by omega)]
    omega
  obtain ⟨p, hp, hp0, hp1⟩ := had
  have tL := Term_pc l p HB (hl.mono hcA)
  have his := LV.term_is (i := p) hlf ⟨by omega, by omega⟩
  have htb : 0 ≤ (l.term p).1 ∧ (l.term p).1 ≤ 1000 := by
    rw [LV.term_eq hlf ⟨by omega, by omega⟩]
    split
    · simp only; omega
    · split
      · rename_i h1 h2
        have hx : (p - l.b - 1).toNat < l.es.length := by rw [← hl.1]; omega
        rw [List.getElem?_eq_getElem hx]
        simp only [Option.getD_some]
        have hmem : l.es[(p - l.b - 1).toNat] ∈ madeE 1 bs1 := hle ▸ List.getElem_mem hx
        have := madeE_bd bs1 1 _ hmem
        omega
      · simp
  obtain ⟨⟨t, is⟩, ht⟩ : ∃ y, l.term p = y := ⟨_, rfl⟩
  rw [ht] at tL his htb
  have his : is = true := by simp only at his; rw [his]; simp; omega
  subst his
  simp only at htb
  refine run_sound (E := E3 ⟨oW, oA, oS, oM, oBa, oBo, oBx, oBn, oE, oN, oL, oLe, oAnd, oOr, oNot, oBq, oSq, oMx, oMn, oC, oSz, oAd, oIx, oQu, oRe, oSl, oSr⟩ _) TEok hO Tm D3ok (PanicOk.body _ _ _) (Hp.le_refl _) 4000 _ _ ?_
  conv => arg 5; cbv
  simp only [Res.ok]
  rw [hp]
  refine EvG.pure Try.call17 (fun _ => rfl) (tL) ?_
  rintro HC v hleC rfl
  refine ⟨.tup [.c (.v (.int .i64 t)), .c (.v (.bool true))], _, fun _ => (by first | exact rfl | exact ⟨_, rfl, rfl⟩ | exact aggT_den _ _), rfl, ?_⟩
  refine run_sound (E := E3 ⟨oW, oA, oS, oM, oBa, oBo, oBx, oBn, oE, oN, oL, oLe, oAnd, oOr, oNot, oBq, oSq, oMx, oMn, oC, oSz, oAd, oIx, oQu, oRe, oSl, oSr⟩ _) TEok hO Tm D3ok (PanicOk.body _ _ _) (Hp.le_refl _) 4000 _ _ ?_
  conv => arg 5; cbv
  simp only [Res.ok]
  have hHC : Hp.le H HC := Hp.le_trans hle1 (Hp.le_trans hle2 (Hp.le_trans hle3 (Hp.le_trans hcA hleC)))
  refine EvG.pure Try.call13 (fun _ => rfl) (made_pc A2 n2 c2 bs2 p t HC (hr2.mono hHC) (by omega) (by omega) (by omega)) ?_
  rintro HD v hleD ⟨o, rfl, ho, -, -, -, hoe⟩
  refine ⟨.t (aggT o.cs), _, fun _ => (by first | exact rfl | exact ⟨_, rfl, rfl⟩ | exact aggT_den _ _), rfl, ?_⟩
  have hon : o.n = n2 := by rw [ho.1, hoe, madeE_len, hl2]
  have hoes : o.es.length = n2 := by rw [hoe, madeE_len, hl2]
  have hcD := Hp.le_trans hcA (Hp.le_trans hleC hleD)
  have hptc : c.term p = (t, true) := by rw [Cut.term hlf hcf hl.1 hcn hcut ⟨by omega, by omega⟩ (by omega), ht]
  refine run_sound (E := E3 ⟨oW, oA, oS, oM, oBa, oBo, oBx, oBn, oE, oN, oL, oLe, oAnd, oOr, oNot, oBq, oSq, oMx, oMn, oC, oSz, oAd, oIx, oQu, oRe, oSl, oSr⟩ _) TEok hO Tm D3ok (PanicOk.body _ _ _) (Hp.le_refl _) 4000 _ _ ?_
  conv => arg 5; cbv
  simp only [Res.ok]
  obtain ⟨last, hlast⟩ : ∃ x : Int, p + (o.es.length : Int) = x := ⟨_, rfl⟩
  have cM := Merge_good l p t o.A o.n o.c o.es HD (hl.mono hcD) hlf (SVok.lv ho) ⟨by omega, by omega⟩ (by omega) (not_bad (by omega) (by omega) (by omega) ht)
  rw [hlast] at cM
  refine EvG.pure Try.call18 (fun _ => rfl) (cM) ?_
  rintro HE v hleE ⟨m, rfl, hm, hms⟩
  refine ⟨.tup [aggT m.cs, .c (.v (.int .i64 last)), .c (.v (.bool true))], _, fun _ => (by first | exact rfl | exact ⟨_, rfl, rfl⟩ | exact aggT_den _ _), rfl, ?_⟩
  replace ho := ho.mono hleE
  have cM2 := Merge_good c p t o.A o.n o.c o.es HE (hc.mono (Hp.le_trans hcD hleE)) hcf (SVok.lv ho) ⟨by omega, by omega⟩ (by omega) (not_bad (by omega) (by omega) (by omega) hptc)
  rw [hlast] at cM2
  refine run_sound (E := E3 ⟨oW, oA, oS, oM, oBa, oBo, oBx, oBn, oE, oN, oL, oLe, oAnd, oOr, oNot, oBq, oSq, oMx, oMn, oC, oSz, oAd, oIx, oQu, oRe, oSl, oSr⟩ _) TEok hO Tm D3ok (PanicOk.body _ _ _) (Hp.le_refl _) 4000 _ _ ?_
  conv => arg 5; cbv
  simp only [Res.ok]
  refine EvG.pure Try.call18 (fun _ => rfl) (cM2) ?_
  rintro HF v hleF ⟨x, rfl, hx, hxs⟩
  refine ⟨.tup [aggT x.cs, .c (.v (.int .i64 last)), .c (.v (.bool true))], _, fun _ => (by first | exact rfl | exact ⟨_, rfl, rfl⟩ | exact aggT_den _ _), rfl, ?_⟩
  have hmes : m.es.length ≤ 80 := by
    rw [hms.2.2.2, mergeEs_hi (by omega)]
    split
    · rw [← hl.1]; omega
    · rw [List.length_append, List.length_take, List.length_drop, ← hl.1]; omega
  have hmf : m.fine := ⟨by rw [hms.1]; omega, by rw [hms.1]; omega, by rw [hm.1]; omega⟩
  have hM := merged hlf hl.1 hm.1 hmf (by omega) (by omega) (by omega) hms
  have hmn := hM.len
  have hmb := hms.1
  refine run_sound (E := E3 ⟨oW, oA, oS, oM, oBa, oBo, oBx, oBn, oE, oN, oL, oLe, oAnd, oOr, oNot, oBq, oSq, oMx, oMn, oC, oSz, oAd, oIx, oQu, oRe, oSl, oSr⟩ _) TEok hO Tm D3ok (PanicOk.body _ _ _) (Hp.le_refl _) 4000 _ _ ?_
  conv => arg 5; cbv
  simp only [Res.ok]
  refine ⟨fun hh => ?_, fun _ => ?_⟩
  · exfalso
    revert hh
    obtain ⟨rfl, rfl, rfl, rfl, rfl, rfl, rfl, rfl, rfl, rfl, rfl, rfl, rfl, rfl, rfl, rfl, rfl, rfl, rfl, rfl, rfl, rfl, rfl, rfl, rfl, rfl, rfl⟩ := Ops.mk.inj hO
    simp [Ops.std]
  refine EvG.pure Try.call14 (fun _ => rfl) (Compact_cut m q HF (hm.mono hleF) hmf (by omega) (by omega)) ?_
  rintro HG v hleG ⟨d, rfl, hd, hdc⟩
  refine ⟨.tup [aggT d.cs, .c (.v (.int .i64 0))], _, fun _ => (by first | exact rfl | exact ⟨_, rfl, rfl⟩ | exact aggT_den _ _), rfl, ?_⟩
  have hsame : SameL d x := Cut.merge hlf hcf hl.1 hcn hcut hm.1 hmf (by omega) (by omega) (by omega) hms hxs hdc
  have cS := Same_true d x HG hd (hx.mono hleG) (by rw [hd.1, hdc.es, List.length_drop]; omega) hsame
  refine run_sound (E := E3 ⟨oW, oA, oS, oM, oBa, oBo, oBx, oBn, oE, oN, oL, oLe, oAnd, oOr, oNot, oBq, oSq, oMx, oMn, oC, oSz, oAd, oIx, oQu, oRe, oSl, oSr⟩ _) TEok hO Tm D3ok (PanicOk.body _ _ _) (Hp.le_refl _) 4000 _ _ ?_
  conv => arg 5; cbv
  simp only [Res.ok]
  refine EvG.pure Try.call19 (fun _ => rfl) (cS) ?_
  rintro HI v hleI rfl
  refine ⟨.kb true, _, fun _ => (by first | exact rfl | exact ⟨_, rfl, rfl⟩ | exact aggT_den _ _), rfl, ?_⟩
  refine run_sound (E := E3 ⟨oW, oA, oS, oM, oBa, oBo, oBx, oBn, oE, oN, oL, oLe, oAnd, oOr, oNot, oBq, oSq, oMx, oMn, oC, oSz, oAd, oIx, oQu, oRe, oSl, oSr⟩ _) TEok hO Tm D3ok (PanicOk.body _ _ _) (Hp.le_refl _) 4000 _ _ ?_
  conv => arg 5; cbv
  simp only [Res.ok]
  exact RetG.pc TEok C3r rfl rfl rfl (fun _ => rfl) rfl
end Go.Sx
