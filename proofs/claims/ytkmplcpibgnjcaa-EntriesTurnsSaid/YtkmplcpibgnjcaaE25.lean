/- Contracts: the reference's Compact. -/
import Derived.Test.YtkmplcpibgnjcaaE21
namespace Go.Sx
open Go.Proofs Go.RowKit

structure Ck where
  k : Nat
  J : Joint
  A : Option Addr
  n : Nat
  c : Nat
  G : Gh
structure Ck.ok (x : Ck) (w : World) (H : Hp) (l : LV) (d : Nat) : Prop where
  w0 : x.G.w0 = w
  M : x.G.M = fun _ => False
  H0 : x.G.H0 = H
  le : Hp.le H x.G.H
  kl : x.k ≤ l.n
  J : x.J = confOf (l.es.take (min x.k d)) l.j
  sv : SVok x.G.H x.A x.n x.c ((l.es.take x.k).drop d)
  own : Own x.G x.A x.n x.c 14 47
theorem confOf_one (es : List Entry) (e : Entry) (j : Joint) : confOf (es ++ [e]) j = if e.kind = 2 then e.conf else confOf es j := by
  rw [confOf_append]
  unfold confOf
  by_cases h : e.kind = 2 <;> simp [h]
noncomputable def C26 : Code := fbody Try.f26
theorem C26b : Try.f26.body = some C26 := by kernel_rfl
theorem C26r : Try.f26.results.toList = [.cell 4 32, .tmp 5] := by kernel_rfl
def D26 : List (List Nat) := [[0, 1, 1, 1, 1]]
theorem D26ok : drOk C26 D26 = true := by kernel_rfl
noncomputable def E26 (O : Ops) (H : Hp) : Env := ⟨O, H, TE, C26, [.cell 4 32, .tmp 5], D26⟩
set_option maxHeartbeats 1000000 in
set_option maxRecDepth 100000 in
theorem rCompact_pc (l : LV) (to : Int) (H : Hp) (hl : l.ok H) (hf : l.fine) (hi : In64 to) : PC Try.prog 26 [aggV l.cs, .int .i64 to] H (CompactR l to) := by
  obtain ⟨g1, g2, g3⟩ := id hf
  have hln := hl.1
  have cL := fun H' => rLast_pc l H'
  rw [LV.lastW_eq hf] at cL
  obtain ⟨lw, hlw⟩ : ∃ x, l.b + l.n = x := ⟨_, rfl⟩
  rw [hlw] at cL
  have cT := rTerm_pc l to H hl hf hi
  have tis := LV.term_is hf hi
  unfold CompactR
  obtain ⟨⟨t, is⟩, ht⟩ : ∃ y, l.term to = y := ⟨_, rfl⟩
  rw [ht] at cT tis ⊢
  simp only at tis
  refine PC.enter [aggT l.cs, .c (.v (.int .i64 to))] Try.func26 C26b rfl 59 Try.ntmps26 (by simp) fun w hw => ?_
  refine ops_open fun oW oA oS oM oBa oBo oBx oBn oE oN oL oLe oAnd oOr oNot oBq oSq oMx oMn oC oSz oAd oIx oQu oRe oSl oSr hO => ?_
  have hnt : oNot true = false := by
    obtain ⟨rfl, rfl, rfl, rfl, rfl, rfl, rfl, rfl, rfl, rfl, rfl, rfl, rfl, rfl, rfl, rfl, rfl, rfl, rfl, rfl, rfl, rfl, rfl, rfl, rfl, rfl, rfl⟩ := Ops.mk.inj hO
    rfl
  have hnf : oNot false = true := by
    obtain ⟨rfl, rfl, rfl, rfl, rfl, rfl, rfl, rfl, rfl, rfl, rfl, rfl, rfl, rfl, rfl, rfl, rfl, rfl, rfl, rfl, rfl, rfl, rfl, rfl, rfl, rfl, rfl⟩ := Ops.mk.inj hO
    rfl
  have hb1 : oA .i64 l.b 1 = l.b + 1 := by
    obtain ⟨rfl, rfl, rfl, rfl, rfl, rfl, rfl, rfl, rfl, rfl, rfl, rfl, rfl, rfl, rfl, rfl, rfl, rfl, rfl, rfl, rfl, rfl, rfl, rfl, rfl, rfl, rfl⟩ := Ops.mk.inj hO
    exact w64 (by omega) (by omega)
  obtain ⟨s0, hs0⟩ : ∃ x, l.b + 1 = x := ⟨_, rfl⟩
  rw [hs0] at hb1
  change oA .i64 l.1 1 = _ at hb1
  refine run_sound (E := E26 ⟨oW, oA, oS, oM, oBa, oBo, oBx, oBn, oE, oN, oL, oLe, oAnd, oOr, oNot, oBq, oSq, oMx, oMn, oC, oSz, oAd, oIx, oQu, oRe, oSl, oSr⟩ _) TEok hO Tm D26ok (PanicOk.body _ _ _) (Hp.le_refl _) 4000 _ _ ?_
  conv => arg 5; cbv
  simp only [Res.ok]
  refine EvG.pure Try.call33 (fun _ => rfl) (cT) ?_
  rintro H1 v hle1 rfl
  refine ⟨.tup [.c (.v (.int .i64 t)), .c (.v (.bool is))], _, fun _ => (by first | exact rfl | exact ⟨_, rfl, rfl⟩ | exact aggT_den _ _), rfl, ?_⟩
  refine run_sound (E := E26 ⟨oW, oA, oS, oM, oBa, oBo, oBx, oBn, oE, oN, oL, oLe, oAnd, oOr, oNot, oBq, oSq, oMx, oMn, oC, oSz, oAd, oIx, oQu, oRe, oSl, oSr⟩ _) TEok hO Tm D26ok (PanicOk.body _ _ _) (Hp.le_refl _) 4000 _ _ ?_
  conv => arg 5; cbv
  simp only [Res.ok]
  refine ⟨fun hh => ?_, fun hh => ?_⟩
  · refine RetG.pc TEok C26r rfl rfl rfl (fun _ => rfl) ?_
    have : is = false := by
      cases is
      · rfl
      · rw [hnt] at hh; cases hh
    subst this
    rw [if_neg (by simp)]
    exact ⟨_, rfl, rfl⟩
  have hist : is = true := by
    cases is
    · rw [hnf] at hh; cases hh
    · rfl
  subst hist
  have hin : l.b ≤ to ∧ to ≤ l.b + l.n := by simpa using tis.symm
  clear hh tis
  obtain ⟨d, hd⟩ : ∃ d, (to - l.b).toNat = d := ⟨_, rfl⟩
  rw [hd, hb1]
  refine LoopG.mk [1, 2, 4, 8, 9] (fun x : Ck => x.ok w H l d) (fun x => ⟨59, [(1, iV to), (2, .t (.c (.p 0 0))), (4, .t (.c (.p 1 0))), (8, .t (.c (.p 2 0))), (9, iV (s0 + x.k))], [], [l.cs.map .v, zLog.map .v, (LV.cs ⟨to, t, x.J, x.A, x.n, x.c, []⟩).map .v]⟩) Ck.G (fun x => l.n + 1 - x.k) ⟨0, l.j, none, 0, 0, (Gh.start w H).seth H1⟩ rfl ⟨_, rfl⟩
    ⟨rfl, rfl, rfl, hle1, Nat.zero_le _, by simp only [Nat.zero_min, List.take_zero]; rfl, by simp only [List.take_zero, List.drop_nil]; exact SVok.nil, .inl ⟨rfl, rfl, rfl⟩⟩
    (by rw [show s0 + (((⟨0, l.j, none, 0, 0, (Gh.start w H).seth H1⟩ : Ck).k : Nat) : Int) = s0 from Int.add_zero s0]; rfl) rfl ?_
  rintro ⟨k, J, A1, n1, c1, G⟩ hx
  obtain ⟨h1, h2, h3, h4, h5, h6, h7, h8⟩ := id hx
  simp only at h1 h2 h3 h4 h5 h6 h7 h8 ⊢
  obtain ⟨i, hii⟩ : ∃ i : Int, s0 + (k : Int) = i := ⟨_, rfl⟩
  rw [hii]
  refine run_sound (E := E26 ⟨oW, oA, oS, oM, oBa, oBo, oBx, oBn, oE, oN, oL, oLe, oAnd, oOr, oNot, oBq, oSq, oMx, oMn, oC, oSz, oAd, oIx, oQu, oRe, oSl, oSr⟩ _) TEok hO Tm D26ok (PanicOk.lq (PanicOk.body _ _ _)) (Hp.le_refl _) 4000 _ _ ?_
  conv => arg 5; cbv
  simp only [Res.ok]
  refine EvG.pure Try.call35 (fun _ => rfl) (cL _) ?_
  rintro HB v hleB rfl
  refine ⟨.t (.c (.v (.int .i64 lw))), _, fun _ => (by first | exact rfl | exact ⟨_, rfl, rfl⟩ | exact aggT_den _ _), rfl, ?_⟩
  refine run_sound (E := E26 ⟨oW, oA, oS, oM, oBa, oBo, oBx, oBn, oE, oN, oL, oLe, oAnd, oOr, oNot, oBq, oSq, oMx, oMn, oC, oSz, oAd, oIx, oQu, oRe, oSl, oSr⟩ _) TEok hO Tm D26ok (PanicOk.lq (PanicOk.body _ _ _)) (Hp.le_refl _) 4000 _ _ ?_
  conv => arg 5; cbv
  simp only [Res.ok]
  refine ⟨fun hh => ?_, fun hh => ?_⟩
  · have hin2 : i ≤ lw := by
      obtain ⟨rfl, rfl, rfl, rfl, rfl, rfl, rfl, rfl, rfl, rfl, rfl, rfl, rfl, rfl, rfl, rfl, rfl, rfl, rfl, rfl, rfl, rfl, rfl, rfl, rfl, rfl, rfl⟩ := Ops.mk.inj hO
      simpa [Ops.std] using hh
    have hkl : k < l.es.length := by omega
    have hcB := Hp.le_trans h4 hleB
    have hA := rAt_pc l i HB (hl.mono hcB) hf ⟨by omega, by omega⟩
    rw [LV.at_some hf ⟨by omega, by omega⟩, if_pos (by omega)] at hA
    have hget : l.es[(i - l.b - 1).toNat]? = some l.es[k] := by
      rw [← List.getElem?_eq_getElem hkl]
      congr 1
      omega
    rw [hget] at hA
    simp only [Option.getD_some] at hA
    have htake : l.es.take (k + 1) = l.es.take k ++ [l.es[k]] := by
      rw [List.take_add_one, List.getElem?_eq_getElem hkl]; rfl
    obtain ⟨e, he⟩ : ∃ e, l.es[k] = e := ⟨_, rfl⟩
    rw [he] at hA htake
    have hi1 : oA .i64 i 1 = s0 + ((k + 1 : Nat) : Int) := by
      obtain ⟨rfl, rfl, rfl, rfl, rfl, rfl, rfl, rfl, rfl, rfl, rfl, rfl, rfl, rfl, rfl, rfl, rfl, rfl, rfl, rfl, rfl, rfl, rfl, rfl, rfl, rfl, rfl⟩ := Ops.mk.inj hO
      rw [show s0 + ((k + 1 : Nat) : Int) = i + 1 by omega]
      exact w64 (by omega) (by omega)
    refine EvG.pure Try.call34 (fun _ => rfl) (hA) ?_
    rintro HC v hleC rfl
    refine ⟨.tup [aggT e.cs, .c (.v (.bool true))], _, fun _ => (by first | exact rfl | exact ⟨_, rfl, rfl⟩ | exact aggT_den _ _), rfl, ?_⟩
    have hcC : Hp.le G.H HC := Hp.le_trans hleB hleC
    have hlt : (l.es.take k).length = k := by rw [List.length_take]; omega
    refine run_sound (E := E26 ⟨oW, oA, oS, oM, oBa, oBo, oBx, oBn, oE, oN, oL, oLe, oAnd, oOr, oNot, oBq, oSq, oMx, oMn, oC, oSz, oAd, oIx, oQu, oRe, oSl, oSr⟩ _) TEok hO Tm D26ok (PanicOk.lq (PanicOk.body _ _ _)) (Hp.le_refl _) 4000 _ _ ?_
    conv => arg 5; cbv
    simp only [Res.ok]
    refine ⟨fun hq => ?_, fun hq => ?_⟩
    · have hq : to < i := by
        obtain ⟨rfl, rfl, rfl, rfl, rfl, rfl, rfl, rfl, rfl, rfl, rfl, rfl, rfl, rfl, rfl, rfl, rfl, rfl, rfl, rfl, rfl, rfl, rfl, rfl, rfl, rfl, rfl⟩ := Ops.mk.inj hO
        simpa [Ops.std] using hq
      refine fun hit => ⟨flatE [e], rfl, fun b2 hb2 => ⟨_, rfl, ?_⟩⟩
      have hle2 : Hp.le HC (HC.add b2 0 (flatE [e])) := Hp.le_add fun o _ => hb2 o
      have hsv1 : SVok (HC.add b2 0 (flatE [e])) (some ⟨b2, 0, none⟩) 1 1 [e] := SVok.fresh rfl (Nat.le_refl _)
      have hle12 := Hp.le_trans hcC hle2
      have hn1 : n1 ≤ k := by rw [h7.1, List.length_drop, hlt]; omega
      refine run_sound (E := E26 ⟨oW, oA, oS, oM, oBa, oBo, oBx, oBn, oE, oN, oL, oLe, oAnd, oOr, oNot, oBq, oSq, oMx, oMn, oC, oSz, oAd, oIx, oQu, oRe, oSl, oSr⟩ _) TEok hO Tm D26ok (PanicOk.lq (PanicOk.body _ _ _)) (Hp.le_refl _) 4000 _ _ ?_
      conv => arg 5; cbv
      simp only [Res.ok]
      refine fun hit => ⟨flatE ((l.es.take k).drop d), flatE [e], (h7.mono hle12).rw, hsv1.rw, flatE_one, h7.2.1, by omega, h8.nc, h8.room, fun A' c' G' hn' hle' hrw hc' => ⟨_, rfl, ?_⟩⟩
      have hx' : Ck.ok ⟨k + 1, J, A', n1 + 1, c', G'⟩ w H l d := ⟨hn'.same.1.trans h1, hn'.same.2.1.trans h2, hn'.same.2.2.trans h3, Hp.le_trans h4 (Hp.le_trans hle12 hle'), by show k + 1 ≤ l.n; omega, by
        show J = confOf (l.es.take (min (k + 1) d)) l.j
        rw [h6, show min (k + 1) d = min k d by omega], by
        show SVok G'.H A' (n1 + 1) c' ((l.es.take (k + 1)).drop d)
        rw [htake, List.drop_append_of_le_length (by omega)]
        exact SVok.of (by rw [List.length_append, ← h7.1]; rfl) hc' (by rw [flatE_append]; exact hrw), hn'.own h8⟩
      obtain ⟨nn, hnn⟩ : ∃ nn, n1 + 1 = nn := ⟨_, rfl⟩
      rw [hnn] at hx' ⊢
      refine run_sound (E := E26 ⟨oW, oA, oS, oM, oBa, oBo, oBx, oBn, oE, oN, oL, oLe, oAnd, oOr, oNot, oBq, oSq, oMx, oMn, oC, oSz, oAd, oIx, oQu, oRe, oSl, oSr⟩ _) TEok hO Tm D26ok (PanicOk.lq (PanicOk.body _ _ _)) (Hp.le_refl _) 4000 _ _ ?_
      conv => arg 5; cbv
      simp only [Res.ok]
      rw [hi1]
      exact FinG.roundB [1, 2, 4, 8, 9] 3 ⟨k + 1, J, A', nn, c', G'⟩ hx' (by show l.n + 1 - (k + 1) < l.n + 1 - k; omega) rfl rfl rfl rfl
    · have hq : ¬ to < i := by
        obtain ⟨rfl, rfl, rfl, rfl, rfl, rfl, rfl, rfl, rfl, rfl, rfl, rfl, rfl, rfl, rfl, rfl, rfl, rfl, rfl, rfl, rfl, rfl, rfl, rfl, rfl, rfl, rfl⟩ := Ops.mk.inj hO
        simpa [Ops.std] using hq
      have hdk : k < d := by omega
      have hn0 : (l.es.take k).drop d = [] := List.drop_eq_nil_of_le (by omega)
      have hn1 : (l.es.take (k + 1)).drop d = [] := List.drop_eq_nil_of_le (by rw [List.length_take]; omega)
      have hJ : confOf (l.es.take (min (k + 1) d)) l.j = if e.kind = 2 then e.conf else J := by
        rw [show min (k + 1) d = k + 1 by omega, htake, confOf_one, h6, show min k d = k by omega]
      refine ⟨fun hq2 => ?_, fun hq2 => ?_⟩
      · change oE e.kind 2 = true at hq2
        have hq2 : e.kind = 2 := by
          obtain ⟨rfl, rfl, rfl, rfl, rfl, rfl, rfl, rfl, rfl, rfl, rfl, rfl, rfl, rfl, rfl, rfl, rfl, rfl, rfl, rfl, rfl, rfl, rfl, rfl, rfl, rfl, rfl⟩ := Ops.mk.inj hO
          simpa [Ops.std] using hq2
        rw [if_pos hq2] at hJ
        rw [hi1]
        exact FinG.roundB [1, 2, 4, 8, 9] 3 ⟨k + 1, e.conf, A1, n1, c1, (G.seth HB).seth HC⟩ ⟨h1, h2, h3, Hp.le_trans h4 hcC, by show k + 1 ≤ l.n; omega, hJ.symm, by
          show SVok HC A1 n1 c1 ((l.es.take (k + 1)).drop d)
          rw [hn1, ← hn0]
          exact h7.mono hcC, h8⟩ (by show l.n + 1 - (k + 1) < l.n + 1 - k; omega) rfl rfl rfl rfl
      · change oE e.kind 2 = false at hq2
        have hq2 : ¬ e.kind = 2 := by
          obtain ⟨rfl, rfl, rfl, rfl, rfl, rfl, rfl, rfl, rfl, rfl, rfl, rfl, rfl, rfl, rfl, rfl, rfl, rfl, rfl, rfl, rfl, rfl, rfl, rfl, rfl, rfl, rfl⟩ := Ops.mk.inj hO
          simpa [Ops.std] using hq2
        rw [if_neg hq2] at hJ
        rw [hi1]
        exact FinG.roundB [1, 2, 4, 8, 9] 3 ⟨k + 1, J, A1, n1, c1, (G.seth HB).seth HC⟩ ⟨h1, h2, h3, Hp.le_trans h4 hcC, by show k + 1 ≤ l.n; omega, hJ.symm, by
          show SVok HC A1 n1 c1 ((l.es.take (k + 1)).drop d)
          rw [hn1, ← hn0]
          exact h7.mono hcC, h8⟩ (by show l.n + 1 - (k + 1) < l.n + 1 - k; omega) rfl rfl rfl rfl
  · have hout : ¬ i ≤ lw := by
      obtain ⟨rfl, rfl, rfl, rfl, rfl, rfl, rfl, rfl, rfl, rfl, rfl, rfl, rfl, rfl, rfl, rfl, rfl, rfl, rfl, rfl, rfl, rfl, rfl, rfl, rfl, rfl, rfl⟩ := Ops.mk.inj hO
      simpa [Ops.std] using hh
    refine FinG.leave rfl rfl ?_
    refine run_sound (E := E26 ⟨oW, oA, oS, oM, oBa, oBo, oBx, oBn, oE, oN, oL, oLe, oAnd, oOr, oNot, oBq, oSq, oMx, oMn, oC, oSz, oAd, oIx, oQu, oRe, oSl, oSr⟩ _) TEok hO Tm D26ok (PanicOk.body _ _ _) (Hp.le_refl _) 4000 _ _ ?_
    conv => arg 5; cbv
    simp only [Res.ok]
    refine RetG.pc TEok C26r h1 h2 h3 (fun _ => rfl) ?_
    rw [if_pos trivial]
    refine ⟨⟨to, t, J, A1, n1, c1, l.es.drop d⟩, rfl, ?_, rfl, rfl, ?_, rfl⟩
    · have : (l.es.take k).drop d = l.es.drop d := by rw [List.take_of_length_le (by omega)]
      rw [this] at h7
      exact h7.mono hleB
    · show J = confOf (l.es.take d) l.j
      rw [h6, show min k d = d by omega]
end Go.Sx
