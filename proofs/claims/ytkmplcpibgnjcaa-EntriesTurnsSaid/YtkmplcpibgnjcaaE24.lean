/- Contracts: a log's entries written over; the reference's Merge. -/
import Derived.Test.YtkmplcpibgnjcaaE23
import Derived.Test.YtkmplcpibgnjcaaE20
namespace Go.Sx
open Go.Proofs Go.RowKit

theorem zEntry_one : ∀ u ∈ zEntry, u.oneCell' = true := flatE_one (es := [Entry.zero])
/-- a body that ends without a return -/
theorem FinG.body {T : Tb} {P : Program} {fn : Func} {R : Ending → World → Prop} {G : Gh} {st : St} (h : RetG T [] (bodyPost P fn R) G (some []) st) : FinG (bodyPost P fn R) G .normal st := fun β a w r g => h rfl β a w r g
noncomputable def C28 : Code := fbody Try.f28
theorem C28b : Try.f28.body = some C28 := by kernel_rfl
theorem C28r : Try.f28.results.toList = [] := by kernel_rfl
def D28 : List (List Nat) := []
theorem D28ok : drOk C28 D28 = true := by kernel_rfl
noncomputable def E28 (O : Ops) (H : Hp) : Env := ⟨O, H, TE, C28, [], D28⟩
theorem wipe_pco (l : LV) (b : Nat) (H : Hp) (hA : l.A = some ⟨b, 0, none⟩) (hc : l.n ≤ l.c) (hn : l.n ≤ 1000) : PCO Try.prog 28 [aggV l.cs] H [⟨b, 0, l.c, 14, 47⟩] fun _ Ro v => Ro = [] ∧ v = .tuple #[] := by
  obtain ⟨lb, lbt, lj, A, n, c, es⟩ := l
  simp only at hA hc hn ⊢
  subst hA
  refine PCO.enter [aggT (LV.cs ⟨lb, lbt, lj, some ⟨b, 0, none⟩, n, c, es⟩)] Try.func28 C28b rfl 15 Try.ntmps28 (by simp) fun w hw => ?_
  refine ops_open fun oW oA oS oM oBa oBo oBx oBn oE oN oL oLe oAnd oOr oNot oBq oSq oMx oMn oC oSz oAd oIx oQu oRe oSl oSr hO => ?_
  refine run_sound (E := E28 ⟨oW, oA, oS, oM, oBa, oBo, oBx, oBn, oE, oN, oL, oLe, oAnd, oOr, oNot, oBq, oSq, oMx, oMn, oC, oSz, oAd, oIx, oQu, oRe, oSl, oSr⟩ _) TEok hO Tm D28ok (PanicOk.body _ _ _) (Hp.le_refl _) 4000 _ _ ?_
  conv => arg 5; cbv
  simp only [Res.ok]
  refine LoopG.mk [1, 2] (fun k : Nat => k ≤ n) (fun k => ⟨15, [(1, .t (.c (.p 0 0))), (2, iV k)], [], [(LV.cs ⟨lb, lbt, lj, some ⟨b, 0, none⟩, n, c, es⟩).map .v]⟩) (fun _ => Gh.startO w H [⟨b, 0, c, 14, 47⟩]) (fun k => n - k) 0 rfl ⟨_, rfl⟩ (Nat.zero_le _) rfl rfl ?_
  intro k hk
  obtain ⟨ki, hki⟩ : ∃ ki : Int, (k : Int) = ki := ⟨_, rfl⟩
  simp only [hki]
  refine run_sound (E := E28 ⟨oW, oA, oS, oM, oBa, oBo, oBx, oBn, oE, oN, oL, oLe, oAnd, oOr, oNot, oBq, oSq, oMx, oMn, oC, oSz, oAd, oIx, oQu, oRe, oSl, oSr⟩ _) TEok hO Tm D28ok (PanicOk.lq (PanicOk.body _ _ _)) (Hp.le_refl _) 4000 _ _ ?_
  conv => arg 5; cbv
  simp only [Res.ok]
  refine ⟨fun hh => ?_, fun hh => ?_⟩
  · have hlt : ki < n := by
      obtain ⟨rfl, rfl, rfl, rfl, rfl, rfl, rfl, rfl, rfl, rfl, rfl, rfl, rfl, rfl, rfl, rfl, rfl, rfl, rfl, rfl, rfl, rfl, rfl, rfl, rfl, rfl, rfl⟩ := Ops.mk.inj hO
      simpa [Ops.std] using hh
    refine ⟨by omega, hlt, ⟨b, 0, none⟩, rfl, fun pa hpa => ⟨_, rfl, ?_⟩⟩
    obtain ⟨off, hoff⟩ : ∃ off, k * 14 = off := ⟨_, rfl⟩
    have hpa : pa = ⟨b, off, none⟩ := by
      rw [hpa, show ki.toNat * 14 = off by omega]
      unfold Addr.add
      split
      · rename_i h; rw [h]
      · simp
    subst hpa
    have hk1 : oA .i64 ki 1 = ((k + 1 : Nat) : Int) := by
      obtain ⟨rfl, rfl, rfl, rfl, rfl, rfl, rfl, rfl, rfl, rfl, rfl, rfl, rfl, rfl, rfl, rfl, rfl, rfl, rfl, rfl, rfl, rfl, rfl, rfl, rfl, rfl, rfl⟩ := Ops.mk.inj hO
      rw [← hki]
      exact w64 (by omega) (by omega)
    refine run_sound (E := E28 ⟨oW, oA, oS, oM, oBa, oBo, oBx, oBn, oE, oN, oL, oLe, oAnd, oOr, oNot, oBq, oSq, oMx, oMn, oC, oSz, oAd, oIx, oQu, oRe, oSl, oSr⟩ _) TEok hO Tm D28ok (PanicOk.lq (PanicOk.body _ _ _)) (Hp.le_refl _) 4000 _ _ ?_
    conv => arg 5; cbv
    simp only [Res.ok]
    refine EvG.wstore TEok (r := ⟨b, 0, c, 14, 47⟩) (l := zEntry) rfl List.mem_cons_self rfl (by show 0 * 14 ≤ off; omega) (by show off + 14 ≤ c * 14; omega) zEntry_one ?_
    refine run_sound (E := E28 ⟨oW, oA, oS, oM, oBa, oBo, oBx, oBn, oE, oN, oL, oLe, oAnd, oOr, oNot, oBq, oSq, oMx, oMn, oC, oSz, oAd, oIx, oQu, oRe, oSl, oSr⟩ _) TEok hO Tm D28ok (PanicOk.lq (PanicOk.body _ _ _)) (Hp.le_refl _) 4000 _ _ ?_
    conv => arg 5; cbv
    simp only [Res.ok]
    rw [hk1]
    exact FinG.round [1, 2] (k + 1) (by omega) (by show n - (k + 1) < n - k; omega) rfl rfl
  · refine FinG.leave rfl rfl ?_
    refine run_sound (E := E28 ⟨oW, oA, oS, oM, oBa, oBo, oBx, oBn, oE, oN, oL, oLe, oAnd, oOr, oNot, oBq, oSq, oMx, oMn, oC, oSz, oAd, oIx, oQu, oRe, oSl, oSr⟩ _) TEok hO Tm D28ok (PanicOk.body _ _ _) (Hp.le_refl _) 4000 _ _ ?_
    conv => arg 5; cbv
    simp only [Res.ok]
    exact FinG.body (RetG.pco TEok C28r rfl rfl rfl (List.nil_sublist _) (fun _ => rfl) ⟨rfl, rfl⟩)
theorem wipe0_pc (l : LV) (H : Hp) (hn : l.n = 0) : PC Try.prog 28 [aggV l.cs] H fun _ v => v = .tuple #[] := by
  obtain ⟨lb, lbt, lj, A, n, c, es⟩ := l
  simp only at hn
  subst hn
  refine PC.enter [aggT (LV.cs ⟨lb, lbt, lj, A, 0, c, es⟩)] Try.func28 C28b rfl 15 Try.ntmps28 (by simp) fun w hw => ?_
  refine ops_open fun oW oA oS oM oBa oBo oBx oBn oE oN oL oLe oAnd oOr oNot oBq oSq oMx oMn oC oSz oAd oIx oQu oRe oSl oSr hO => ?_
  refine run_sound (E := E28 ⟨oW, oA, oS, oM, oBa, oBo, oBx, oBn, oE, oN, oL, oLe, oAnd, oOr, oNot, oBq, oSq, oMx, oMn, oC, oSz, oAd, oIx, oQu, oRe, oSl, oSr⟩ _) TEok hO Tm D28ok (PanicOk.body _ _ _) (Hp.le_refl _) 4000 _ _ ?_
  conv => arg 5; cbv
  simp only [Res.ok]
  refine LoopG.mk [1, 2] (fun k : Nat => k ≤ 0) (fun k => ⟨15, [(1, .t (.c (.p 0 0))), (2, iV k)], [], [(LV.cs ⟨lb, lbt, lj, A, 0, c, es⟩).map .v]⟩) (fun _ => Gh.start w H) (fun k => 0 - k) 0 rfl ⟨_, rfl⟩ (Nat.zero_le _) rfl rfl ?_
  intro k hk
  obtain rfl : k = 0 := by omega
  have hl : oL (Int.ofNat 0) (oC 0) = false := by
    obtain ⟨rfl, rfl, rfl, rfl, rfl, rfl, rfl, rfl, rfl, rfl, rfl, rfl, rfl, rfl, rfl, rfl, rfl, rfl, rfl, rfl, rfl, rfl, rfl, rfl, rfl, rfl, rfl⟩ := Ops.mk.inj hO
    rfl
  refine run_sound (E := E28 ⟨oW, oA, oS, oM, oBa, oBo, oBx, oBn, oE, oN, oL, oLe, oAnd, oOr, oNot, oBq, oSq, oMx, oMn, oC, oSz, oAd, oIx, oQu, oRe, oSl, oSr⟩ _) TEok hO Tm D28ok (PanicOk.lq (PanicOk.body _ _ _)) (Hp.le_refl _) 4000 _ _ ?_
  conv => arg 5; cbv
  simp only [Res.ok]
  refine ⟨fun hh => (by rw [hl] at hh; cases hh), fun _ => ?_⟩
  refine FinG.leave rfl rfl ?_
  refine run_sound (E := E28 ⟨oW, oA, oS, oM, oBa, oBo, oBx, oBn, oE, oN, oL, oLe, oAnd, oOr, oNot, oBq, oSq, oMx, oMn, oC, oSz, oAd, oIx, oQu, oRe, oSl, oSr⟩ _) TEok hO Tm D28ok (PanicOk.body _ _ _) (Hp.le_refl _) 4000 _ _ ?_
  conv => arg 5; cbv
  simp only [Res.ok]
  exact FinG.body (RetG.pc TEok C28r rfl rfl rfl (fun _ => rfl) rfl)
theorem not_bad' {l : LV} {p t : Int} {es : List Entry} (h0 : 0 ≤ p) (h1 : l.b ≤ p) (h2 : p ≤ l.b + l.n) (ht : l.term p = (t, true)) : ¬ mergeBad l p t es := by
  unfold mergeBad
  rw [ht]
  rintro (h | h | h | h)
  · omega
  · omega
  · exact h.2 ⟨rfl, rfl⟩
  · omega
noncomputable def C25 : Code := fbody Try.f25
theorem C25b : Try.f25.body = some C25 := by kernel_rfl
theorem C25r : Try.f25.results.toList = [.cell 8 32, .tmp 9, .tmp 10] := by kernel_rfl
def D25 : List (List Nat) := [[0, 0, 1, 1, 1, 1, 0, 0, 1, 0, 0, 1, 0, 1, 1, 1, 1, 1, 1]]
theorem D25ok : drOk C25 D25 = true := by kernel_rfl
noncomputable def E25 (O : Ops) (H : Hp) : Env := ⟨O, H, TE, C25, [.cell 8 32, .tmp 9, .tmp 10], D25⟩
set_option maxHeartbeats 4000000 in
set_option maxRecDepth 100000 in
theorem rMerge_pc (l : LV) (prev term : Int) (A2 : Option Addr) (n2 c2 : Nat) (es2 : List Entry) (H : Hp) (hl : l.ok H) (hf : l.fine) (h2 : SVok H A2 n2 c2 es2) (hp : In64 prev) (hb : l.n + n2 ≤ 1048576) :
    PC Try.prog 25 [aggV l.cs, .int .i64 prev, .int .i64 term, .slice A2 n2 c2] H (MergeR l prev term es2) := by
  obtain ⟨g1, g2, g3⟩ := id hf
  obtain ⟨p1, p2⟩ := id hp
  have hln := hl.1
  have h2n := h2.1
  have cL := fun H' => rLast_pc l H'
  rw [LV.lastW_eq hf] at cL
  obtain ⟨lw, hlw⟩ : ∃ x, l.b + l.n = x := ⟨_, rfl⟩
  rw [hlw] at cL
  have hbadR := fun (H' : Hp) (hb : mergeBad l prev term es2) (h : Hp.le H H') => (show MergeR l prev term es2 H' (.tuple #[aggV l.cs, .int .i64 0, .bool false]) from .inl ⟨hb, l, rfl, hl.mono h, rfl, rfl, rfl, rfl⟩)
  refine PC.enter [aggT l.cs, .c (.v (.int .i64 prev)), .c (.v (.int .i64 term)), .c (.v (.slice A2 n2 c2))] Try.func25 C25b rfl 106 Try.ntmps25 (by simp) fun w hw => ?_
  refine ops_open fun oW oA oS oM oBa oBo oBx oBn oE oN oL oLe oAnd oOr oNot oBq oSq oMx oMn oC oSz oAd oIx oQu oRe oSl oSr hO => ?_
  have had : ∀ pa k, oAd pa k = pa.add k := by
    obtain ⟨rfl, rfl, rfl, rfl, rfl, rfl, rfl, rfl, rfl, rfl, rfl, rfl, rfl, rfl, rfl, rfl, rfl, rfl, rfl, rfl, rfl, rfl, rfl, rfl, rfl, rfl, rfl⟩ := Ops.mk.inj hO
    intro pa k
    rfl
  refine run_sound (E := E25 ⟨oW, oA, oS, oM, oBa, oBo, oBx, oBn, oE, oN, oL, oLe, oAnd, oOr, oNot, oBq, oSq, oMx, oMn, oC, oSz, oAd, oIx, oQu, oRe, oSl, oSr⟩ _) TEok hO Tm D25ok (PanicOk.body _ _ _) (Hp.le_refl _) 4000 _ _ ?_
  conv => arg 5; cbv
  simp only [Res.ok]
  refine EvG.pure Try.call35 (fun _ => rfl) (cL _) ?_
  rintro H1 v hle1 rfl
  refine ⟨.t (.c (.v (.int .i64 lw))), _, fun _ => (by first | exact rfl | exact ⟨_, rfl, rfl⟩ | exact aggT_den _ _), rfl, ?_⟩
  refine run_sound (E := E25 ⟨oW, oA, oS, oM, oBa, oBo, oBx, oBn, oE, oN, oL, oLe, oAnd, oOr, oNot, oBq, oSq, oMx, oMn, oC, oSz, oAd, oIx, oQu, oRe, oSl, oSr⟩ _) TEok hO Tm D25ok (PanicOk.body _ _ _) (Hp.le_refl _) 4000 _ _ ?_
  conv => arg 5; cbv
  simp only [Res.ok]
  refine ⟨fun hh => ?_, fun hh => ?_⟩
  · refine RetG.pc TEok C25r rfl rfl rfl (fun _ => rfl) (hbadR _ ?_ hle1)
    have hh : lw < prev ∨ prev < 0 := by
      obtain ⟨rfl, rfl, rfl, rfl, rfl, rfl, rfl, rfl, rfl, rfl, rfl, rfl, rfl, rfl, rfl, rfl, rfl, rfl, rfl, rfl, rfl, rfl, rfl, rfl, rfl, rfl, rfl⟩ := Ops.mk.inj hO
      simpa [Ops.std] using hh
    rcases hh with h | h
    · exact .inl (by omega)
    · exact .inr (.inl h)
  have hin : prev ≤ lw ∧ 0 ≤ prev := by
    have : ¬ (lw < prev ∨ prev < 0) := by
      obtain ⟨rfl, rfl, rfl, rfl, rfl, rfl, rfl, rfl, rfl, rfl, rfl, rfl, rfl, rfl, rfl, rfl, rfl, rfl, rfl, rfl, rfl, rfl, rfl, rfl, rfl, rfl, rfl⟩ := Ops.mk.inj hO
      simpa [Ops.std] using hh
    omega
  clear hh
  have hgoodR := fun (hg : ¬ mergeBad l prev term es2) (H' : Hp) (m : LV) (hs : SameBut l m (mergeEs l prev es2)) (hok : m.ok H') =>
    (show MergeR l prev term es2 H' (.tuple #[aggV m.cs, .int .i64 (prev + es2.length), .bool true]) from .inr ⟨hg, m, rfl, hok, hs⟩)
  rw [← h2n] at hgoodR
  obtain ⟨last, hlast0⟩ : ∃ last : Int, prev + (n2 : Int) = last := ⟨_, rfl⟩
  rw [hlast0] at hgoodR
  have hlast : oA .i64 prev (oC n2) = last := by
    rw [← hlast0]
    obtain ⟨rfl, rfl, rfl, rfl, rfl, rfl, rfl, rfl, rfl, rfl, rfl, rfl, rfl, rfl, rfl, rfl, rfl, rfl, rfl, rfl, rfl, rfl, rfl, rfl, rfl, rfl, rfl⟩ := Ops.mk.inj hO
    exact w64 (by show -9223372036854775808 ≤ prev + (n2 : Int); omega) (by show prev + (n2 : Int) ≤ 9223372036854775807; omega)
  obtain ⟨dd, hdd⟩ : ∃ dd, (l.b - prev).toNat = dd := ⟨_, rfl⟩
  obtain ⟨p, hpm⟩ : ∃ p, max prev l.b = p := ⟨_, rfl⟩
  have hmE : mergeEs l prev es2 = match mism l p 0 (es2.drop dd) with | none => l.es | some k => l.es.take (p - l.b + k).toNat ++ (es2.drop dd).drop k := by
    unfold mergeEs
    rw [hpm, hdd]
    rfl
  -- what the loop's rounds have seen
  have hstep : ∀ (k : Nat) (e : Entry), es2[k]? = some e → dd ≤ k → mism l p 0 (es2.drop dd) = mism l p (k - dd) (es2.drop k) → (agr l p (k - dd) e → mism l p 0 (es2.drop dd) = mism l p (k + 1 - dd) (es2.drop (k + 1))) ∧ (¬ agr l p (k - dd) e → mism l p 0 (es2.drop dd) = some (k - dd)) := by
    intro k e he hk hm
    obtain ⟨h7, h8⟩ := List.getElem?_eq_some_iff.1 he
    rw [List.drop_eq_getElem_cons h7, h8] at hm
    simp only [mism] at hm
    constructor
    · intro ha
      rw [if_pos (agr_iff.2 ha)] at hm
      rw [hm]
      congr 1
      omega
    · intro ha
      rw [if_neg (fun h => ha (agr_iff.1 h))] at hm
      exact hm
  have loop : ∀ (A3 : Option Addr) (c3 : Nat) (G : Gh) (st : St), ¬ mergeBad l prev term es2 → G.w0 = w → (G.M = fun _ => False) → G.H0 = H → Hp.le H G.H → SVok G.H A3 l.n c3 l.es →
      st.n = 106 → keepT [1, 3, 4, 8, 13, 14] st.t = [(1, iV prev), (3, SlV A2 n2 c2), (4, .t (.c (.p 0 0))), (8, .t (.c (.p 1 0))), (13, .t (.c (.p 2 0))), (14, iV 0)] →
      st.bx = [l.cs.map .v, zLog.map .v, (LV.cs ⟨l.b, l.bt, l.j, A3, l.n, c3, l.es⟩).map .v] →
      LoopG Try.prog C25 (bodyPost Try.prog Try.f25 (PCpost w H (MergeR l prev term es2))) G [0, 0, 1, 0, 1, 1, 1, 1, 1, 1] [It.blk 0, It.code [1, 1, 1, 1, 1, 1, 1]] st := by
    intro A3 c3 G st hg y1 y2 y3 y4 hs3 hst1 hst2 hst3
    refine LoopG.mk [1, 3, 4, 8, 13, 14] (fun x : Nat × Hp => x.1 ≤ n2 ∧ Hp.le G.H x.2 ∧ (x.1 ≤ dd ∨ (p + ((x.1 - dd : Nat) : Int) ≤ l.b + l.n ∧ mism l p 0 (es2.drop dd) = mism l p (x.1 - dd) (es2.drop x.1))))
      (fun x => ⟨106, [(1, iV prev), (3, SlV A2 n2 c2), (4, .t (.c (.p 0 0))), (8, .t (.c (.p 1 0))), (13, .t (.c (.p 2 0))), (14, iV x.1)], [], [l.cs.map .v, zLog.map .v, (LV.cs ⟨l.b, l.bt, l.j, A3, l.n, c3, l.es⟩).map .v]⟩)
      (fun x => G.seth x.2) (fun x => n2 - x.1) (0, G.H) rfl ⟨_, rfl⟩ ⟨Nat.zero_le _, Hp.le_refl _, .inl (Nat.zero_le _)⟩ (by rw [hst1, hst2, hst3]; rfl) rfl ?_
    rintro ⟨k, HK⟩ ⟨hk, hleK0, hm⟩
    simp only at hk hleK0 hm ⊢
    have hleK := Hp.le_trans y4 hleK0
    obtain ⟨ki, hki⟩ : ∃ ki : Int, (k : Int) = ki := ⟨_, rfl⟩
    rw [hki]
    have hii : oA .i64 (oA .i64 prev 1) ki = prev + 1 + ki := by
      obtain ⟨rfl, rfl, rfl, rfl, rfl, rfl, rfl, rfl, rfl, rfl, rfl, rfl, rfl, rfl, rfl, rfl, rfl, rfl, rfl, rfl, rfl, rfl, rfl, rfl, rfl, rfl, rfl⟩ := Ops.mk.inj hO
      show IntKind.i64.wrap (IntKind.i64.wrap (prev + 1) + ki) = prev + 1 + ki
      rw [w64 (n := prev + 1) (by omega) (by omega)]
      exact w64 (by omega) (by omega)
    obtain ⟨i, hi⟩ : ∃ i, prev + 1 + ki = i := ⟨_, rfl⟩
    rw [hi] at hii
    have hk1 : oA .i64 ki 1 = ((k + 1 : Nat) : Int) := by
      obtain ⟨rfl, rfl, rfl, rfl, rfl, rfl, rfl, rfl, rfl, rfl, rfl, rfl, rfl, rfl, rfl, rfl, rfl, rfl, rfl, rfl, rfl, rfl, rfl, rfl, rfl, rfl, rfl⟩ := Ops.mk.inj hO
      rw [← hki]
      exact w64 (by omega) (by omega)
    refine run_sound (E := E25 ⟨oW, oA, oS, oM, oBa, oBo, oBx, oBn, oE, oN, oL, oLe, oAnd, oOr, oNot, oBq, oSq, oMx, oMn, oC, oSz, oAd, oIx, oQu, oRe, oSl, oSr⟩ _) TEok hO Tm D25ok (PanicOk.lq (PanicOk.body _ _ _)) (Hp.le_refl _) 4000 _ _ ?_
    conv => arg 5; cbv
    simp only [Res.ok]
    rw [hii]
    refine ⟨fun hh => ⟨fun h4 => ?_, fun h4 => ?_⟩, fun hh => ?_⟩
    · have hlt : ki < n2 := by
        obtain ⟨rfl, rfl, rfl, rfl, rfl, rfl, rfl, rfl, rfl, rfl, rfl, rfl, rfl, rfl, rfl, rfl, rfl, rfl, rfl, rfl, rfl, rfl, rfl, rfl, rfl, rfl, rfl⟩ := Ops.mk.inj hO
        simpa [Ops.std] using hh
      change oLe i l.b = true at h4
      have h4 : i ≤ l.b := by
        obtain ⟨rfl, rfl, rfl, rfl, rfl, rfl, rfl, rfl, rfl, rfl, rfl, rfl, rfl, rfl, rfl, rfl, rfl, rfl, rfl, rfl, rfl, rfl, rfl, rfl, rfl, rfl, rfl⟩ := Ops.mk.inj hO
        simpa [Ops.std] using h4
      rw [hk1]
      exact FinG.round [1, 3, 4, 8, 13, 14] (k + 1, HK) ⟨by simp only; omega, hleK0, .inl (by simp only; omega)⟩ (by show n2 - (k + 1) < n2 - k; omega) rfl rfl
    · have hlt : ki < n2 := by
        obtain ⟨rfl, rfl, rfl, rfl, rfl, rfl, rfl, rfl, rfl, rfl, rfl, rfl, rfl, rfl, rfl, rfl, rfl, rfl, rfl, rfl, rfl, rfl, rfl, rfl, rfl, rfl, rfl⟩ := Ops.mk.inj hO
        simpa [Ops.std] using hh
      change oLe i l.b = false at h4
      have h4 : ¬ i ≤ l.b := by
        obtain ⟨rfl, rfl, rfl, rfl, rfl, rfl, rfl, rfl, rfl, rfl, rfl, rfl, rfl, rfl, rfl, rfl, rfl, rfl, rfl, rfl, rfl, rfl, rfl, rfl, rfl, rfl, rfl⟩ := Ops.mk.inj hO
        simpa [Ops.std] using h4
      have hkd : dd ≤ k := by omega
      obtain ⟨hpk, hm⟩ : p + ((k - dd : Nat) : Int) ≤ l.b + l.n ∧ mism l p 0 (es2.drop dd) = mism l p (k - dd) (es2.drop k) := by
        rcases hm with h | h
        · have : k = dd := by omega
          rw [this, Nat.sub_self]
          exact ⟨by omega, rfl⟩
        · exact h
      have cT := rTerm_pc l i HK (hl.mono hleK) hf ⟨by omega, by omega⟩
      obtain ⟨⟨t6, is6⟩, h6⟩ : ∃ y, l.term i = y := ⟨_, rfl⟩
      rw [h6] at cT
      obtain ⟨e, ad, he, hA, hgt⟩ := row_at h2 (k := ki) (by omega) hlt
      have hkn : ki.toNat = k := by omega
      rw [hkn] at he
      obtain ⟨st1, st2⟩ := hstep k e he hkd hm
      have hag : agr l p (k - dd) e ↔ (t6 = e.term ∧ is6 = true) := by
        unfold agr
        rw [show p + 1 + ((k - dd : Nat) : Int) = i by omega, h6]
        simp
      rw [hag] at st1 st2
      have hnt : oNot true = false := by
        obtain ⟨rfl, rfl, rfl, rfl, rfl, rfl, rfl, rfl, rfl, rfl, rfl, rfl, rfl, rfl, rfl, rfl, rfl, rfl, rfl, rfl, rfl, rfl, rfl, rfl, rfl, rfl, rfl⟩ := Ops.mk.inj hO
        rfl
      have hnf : oNot false = true := by
        obtain ⟨rfl, rfl, rfl, rfl, rfl, rfl, rfl, rfl, rfl, rfl, rfl, rfl, rfl, rfl, rfl, rfl, rfl, rfl, rfl, rfl, rfl, rfl, rfl, rfl, rfl, rfl, rfl⟩ := Ops.mk.inj hO
        rfl
      have hsub : oS .i64 (oS .i64 i l.b) 1 = i - l.b - 1 := by
        obtain ⟨rfl, rfl, rfl, rfl, rfl, rfl, rfl, rfl, rfl, rfl, rfl, rfl, rfl, rfl, rfl, rfl, rfl, rfl, rfl, rfl, rfl, rfl, rfl, rfl, rfl, rfl, rfl⟩ := Ops.mk.inj hO
        show IntKind.i64.wrap (IntKind.i64.wrap (i - l.b) - 1) = _
        rw [w64 (n := i - l.b) (by omega) (by omega)]
        exact w64 (by omega) (by omega)
      change oS .i64 (oS .i64 i l.1) 1 = _ at hsub
      refine EvG.pure Try.call33 (fun _ => rfl) (cT) ?_
      rintro HL v hle33 rfl
      refine ⟨.tup [.c (.v (.int .i64 t6)), .c (.v (.bool is6))], _, fun _ => (by first | exact rfl | exact ⟨_, rfl, rfl⟩ | exact aggT_den _ _), rfl, ?_⟩
      have hleL := Hp.le_trans hleK hle33
      refine run_sound (E := E25 ⟨oW, oA, oS, oM, oBa, oBo, oBx, oBn, oE, oN, oL, oLe, oAnd, oOr, oNot, oBq, oSq, oMx, oMn, oC, oSz, oAd, oIx, oQu, oRe, oSl, oSr⟩ _) TEok hO Tm D25ok (PanicOk.lq (PanicOk.body _ _ _)) (Hp.le_refl _) 4000 _ _ ?_
      conv => arg 5; cbv
      simp only [Res.ok]
      refine ⟨fun h5 => ?_, fun h5 => ?_⟩
      · have hmis := st2 (by
          rintro ⟨-, rfl⟩
          rw [show oNot true = false from hnt] at h5
          cases h5)
        have hsl8 := SVok.take (SVok.lv hl) (k := i - l.b - 1) (by omega) (by omega)
        rw [hsub]
        obtain ⟨h8, hh8⟩ : ∃ x, i - l.b - 1 = x := ⟨_, rfl⟩
        rw [hh8] at hsl8 ⊢
        refine ⟨Int.le_refl _, by show 0 ≤ h8; omega, by show h8 ≤ (l.c : Int); have := hl.2.1; omega, fun A5 n5 c5 hA5 hn5 hc5 => ⟨_, rfl, ?_⟩⟩
        simp only [Option.getD_some, Option.getD_none, Int.toNat_zero, Nat.sub_zero] at hA5 hn5 hc5
        have hA5' : A5 = l.A := by
          rw [hA5]
          split
          · rfl
          · change Option.map _ l.A = l.A
            cases l.A <;> simp [Addr.add]
        change n5 = h8.toNat at hn5
        change c5 = l.c at hc5
        have hs5 : SVok HL A5 n5 c5 (l.es.take n5) := by
          rw [hA5', hc5, hn5]
          exact hsl8.mono hleL
        clear hA5 hA5' hc5
        refine run_sound (E := E25 ⟨oW, oA, oS, oM, oBa, oBo, oBx, oBn, oE, oN, oL, oLe, oAnd, oOr, oNot, oBq, oSq, oMx, oMn, oC, oSz, oAd, oIx, oQu, oRe, oSl, oSr⟩ _) TEok hO Tm D25ok (PanicOk.lq (PanicOk.body _ _ _)) (Hp.le_refl _) 4000 _ _ ?_
        conv => arg 5; cbv
        simp only [Res.ok]
        have hslK := SVok.slice (h2.mono hleL) (k := ki) (by omega)
        refine ⟨by show 0 ≤ ki; omega, by show ki ≤ (n2 : Int); omega, by show (n2 : Int) ≤ c2; have := h2.2.1; omega, fun A6 n6 c6 hA6 hn6 hc6 => ⟨_, rfl, ?_⟩⟩
        simp only [Option.getD_some, Option.getD_none, Int.toNat_natCast] at hA6 hn6 hc6
        rw [← hA6, ← hn6, ← hc6, hkn] at hslK
        have hn6' : n6 = n2 - k := by rw [hn6]; omega
        clear hA6 hn6 hc6
        refine run_sound (E := E25 ⟨oW, oA, oS, oM, oBa, oBo, oBx, oBn, oE, oN, oL, oLe, oAnd, oOr, oNot, oBq, oSq, oMx, oMn, oC, oSz, oAd, oIx, oQu, oRe, oSl, oSr⟩ _) TEok hO Tm D25ok (PanicOk.lq (PanicOk.body _ _ _)) (Hp.le_refl _) 4000 _ _ ?_
        conv => arg 5; cbv
        simp only [Res.ok]
        refine fun hit => ⟨[], rfl, fun b0 hb0 => ⟨_, rfl, ?_⟩⟩
        have hl0 : Hp.le HL (HL.add b0 0 []) := Hp.le_add fun o _ => hb0 o
        refine run_sound (E := E25 ⟨oW, oA, oS, oM, oBa, oBo, oBx, oBn, oE, oN, oL, oLe, oAnd, oOr, oNot, oBq, oSq, oMx, oMn, oC, oSz, oAd, oIx, oQu, oRe, oSl, oSr⟩ _) TEok hO Tm D25ok (PanicOk.lq (PanicOk.body _ _ _)) (Hp.le_refl _) 4000 _ _ ?_
        conv => arg 5; cbv
        simp only [Res.ok]
        refine fun hit => ⟨[], flatE (l.es.take n5), Rw.nil, (hs5.mono hl0).rw, flatE_one, Nat.le_refl _, by omega, fun hh => (by cases hh), fun h2 h3 => (by omega), fun A7 c7 G7 hn7 hle7 hx hc7 => ?_⟩
        have hsome := hn7.some0
        have hroom := fun (q : Nat) (hq : 0 < q) (h2 : 0 + n5 + q ≤ c7) => hn7.room0 hq h2
        obtain ⟨e1, e2, e3⟩ := hn7.same
        rw [Nat.zero_add, List.nil_append] at hx
        rw [Nat.zero_add] at hc7 hroom ⊢
        refine ⟨_, rfl, ?_⟩
        refine run_sound (E := E25 ⟨oW, oA, oS, oM, oBa, oBo, oBx, oBn, oE, oN, oL, oLe, oAnd, oOr, oNot, oBq, oSq, oMx, oMn, oC, oSz, oAd, oIx, oQu, oRe, oSl, oSr⟩ _) TEok hO Tm D25ok (PanicOk.lq (PanicOk.body _ _ _)) (Hp.le_refl _) 4000 _ _ ?_
        conv => arg 5; cbv
        simp only [Res.ok]
        refine fun hit => ⟨flatE (l.es.take n5), flatE (es2.drop k), hx, (hslK.mono (Hp.le_trans hl0 hle7)).rw, flatE_one, hc7, by omega, fun hh => absurd hh hsome, fun hq h3 => hroom _ hq h3, fun A9 c9 G9 hn9 hle9 hrw hc9 => ?_⟩
        obtain ⟨f1, f2, f3⟩ := hn9.same
        refine ⟨_, rfl, ?_⟩
        rw [← flatE_append] at hrw
        have hsv : SVok G9.H A9 (n5 + n6) c9 (l.es.take n5 ++ es2.drop k) := SVok.of (by rw [List.length_append, ← hs5.1, ← hslK.1]) hc9 hrw
        obtain ⟨nn, hnn⟩ : ∃ nn, n5 + n6 = nn := ⟨_, rfl⟩
        rw [hnn] at hsv ⊢
        refine run_sound (E := E25 ⟨oW, oA, oS, oM, oBa, oBo, oBx, oBn, oE, oN, oL, oLe, oAnd, oOr, oNot, oBq, oSq, oMx, oMn, oC, oSz, oAd, oIx, oQu, oRe, oSl, oSr⟩ _) TEok hO Tm D25ok (PanicOk.lq (PanicOk.body _ _ _)) (Hp.le_refl _) 4000 _ _ ?_
        conv => arg 5; cbv
        simp only [Res.ok]
        refine FinG.leave rfl rfl ?_
        refine run_sound (E := E25 ⟨oW, oA, oS, oM, oBa, oBo, oBx, oBn, oE, oN, oL, oLe, oAnd, oOr, oNot, oBq, oSq, oMx, oMn, oC, oSz, oAd, oIx, oQu, oRe, oSl, oSr⟩ _) TEok hO Tm D25ok (PanicOk.body _ _ _) (Hp.le_refl _) 4000 _ _ ?_
        conv => arg 5; cbv
        simp only [Res.ok]
        rw [hlast]
        refine RetG.pc TEok C25r (f1.trans (e1.trans y1)) (f2.trans (e2.trans y2)) (f3.trans (e3.trans y3)) (fun _ => rfl) ?_
        refine hgoodR hg _ ⟨l.b, l.bt, l.j, A9, nn, c9, l.es.take n5 ++ es2.drop k⟩ ⟨rfl, rfl, rfl, ?_⟩ hsv
        show l.es.take n5 ++ es2.drop k = mergeEs l prev es2
        rw [hmE, hmis]
        show l.es.take n5 ++ es2.drop k = l.es.take (p - l.b + ((k - dd : Nat) : Int)).toNat ++ (es2.drop dd).drop (k - dd)
        rw [List.drop_drop, show dd + (k - dd) = k by omega, show (p - l.b + ((k - dd : Nat) : Int)).toNat = n5 by omega]
      have hist : is6 = true := by
        cases is6
        · rw [hnf] at h5; cases h5
        · rfl
      refine ⟨by omega, hlt, ad, hA, fun pa hpa => ⟨_, rfl, ?_⟩⟩
      have hp0 := hgt pa hpa
      refine run_sound (E := E25 ⟨oW, oA, oS, oM, oBa, oBo, oBx, oBn, oE, oN, oL, oLe, oAnd, oOr, oNot, oBq, oSq, oMx, oMn, oC, oSz, oAd, oIx, oQu, oRe, oSl, oSr⟩ _) TEok hO Tm D25ok (PanicOk.lq (PanicOk.body _ _ _)) (Hp.le_refl _) 4000 _ _ ?_
      conv => arg 5; cbv
      simp only [Res.ok]
      rw [had]
      refine ⟨[.int .i64 e.term], rfl, fun jj v hv => hat_mono hleL (one_at (ent_drop hp0 0 0 _ rfl) jj v hv), .inr ⟨rfl, _, _, rfl, rfl, ?_⟩⟩
      refine run_sound (E := E25 ⟨oW, oA, oS, oM, oBa, oBo, oBx, oBn, oE, oN, oL, oLe, oAnd, oOr, oNot, oBq, oSq, oMx, oMn, oC, oSz, oAd, oIx, oQu, oRe, oSl, oSr⟩ _) TEok hO Tm D25ok (PanicOk.lq (PanicOk.body _ _ _)) (Hp.le_refl _) 4000 _ _ ?_
      conv => arg 5; cbv
      simp only [Res.ok]
      refine ⟨fun h7 => ?_, fun h7 => ?_⟩
      · change oN t6 e.term = true at h7
        have hmis := st2 (by
          rintro ⟨rfl, -⟩
          revert h7
          obtain ⟨rfl, rfl, rfl, rfl, rfl, rfl, rfl, rfl, rfl, rfl, rfl, rfl, rfl, rfl, rfl, rfl, rfl, rfl, rfl, rfl, rfl, rfl, rfl, rfl, rfl, rfl, rfl⟩ := Ops.mk.inj hO
          simp [Ops.std])
        have hsl8 := SVok.take (SVok.lv hl) (k := i - l.b - 1) (by omega) (by omega)
        rw [hsub]
        obtain ⟨h8, hh8⟩ : ∃ x, i - l.b - 1 = x := ⟨_, rfl⟩
        rw [hh8] at hsl8 ⊢
        refine ⟨Int.le_refl _, by show 0 ≤ h8; omega, by show h8 ≤ (l.c : Int); have := hl.2.1; omega, fun A5 n5 c5 hA5 hn5 hc5 => ⟨_, rfl, ?_⟩⟩
        simp only [Option.getD_some, Option.getD_none, Int.toNat_zero, Nat.sub_zero] at hA5 hn5 hc5
        have hA5' : A5 = l.A := by
          rw [hA5]
          split
          · rfl
          · change Option.map _ l.A = l.A
            cases l.A <;> simp [Addr.add]
        change n5 = h8.toNat at hn5
        change c5 = l.c at hc5
        have hs5 : SVok HL A5 n5 c5 (l.es.take n5) := by
          rw [hA5', hc5, hn5]
          exact hsl8.mono hleL
        clear hA5 hA5' hc5
        refine run_sound (E := E25 ⟨oW, oA, oS, oM, oBa, oBo, oBx, oBn, oE, oN, oL, oLe, oAnd, oOr, oNot, oBq, oSq, oMx, oMn, oC, oSz, oAd, oIx, oQu, oRe, oSl, oSr⟩ _) TEok hO Tm D25ok (PanicOk.lq (PanicOk.body _ _ _)) (Hp.le_refl _) 4000 _ _ ?_
        conv => arg 5; cbv
        simp only [Res.ok]
        have hslK := SVok.slice (h2.mono hleL) (k := ki) (by omega)
        refine ⟨by show 0 ≤ ki; omega, by show ki ≤ (n2 : Int); omega, by show (n2 : Int) ≤ c2; have := h2.2.1; omega, fun A6 n6 c6 hA6 hn6 hc6 => ⟨_, rfl, ?_⟩⟩
        simp only [Option.getD_some, Option.getD_none, Int.toNat_natCast] at hA6 hn6 hc6
        rw [← hA6, ← hn6, ← hc6, hkn] at hslK
        have hn6' : n6 = n2 - k := by rw [hn6]; omega
        clear hA6 hn6 hc6
        refine run_sound (E := E25 ⟨oW, oA, oS, oM, oBa, oBo, oBx, oBn, oE, oN, oL, oLe, oAnd, oOr, oNot, oBq, oSq, oMx, oMn, oC, oSz, oAd, oIx, oQu, oRe, oSl, oSr⟩ _) TEok hO Tm D25ok (PanicOk.lq (PanicOk.body _ _ _)) (Hp.le_refl _) 4000 _ _ ?_
        conv => arg 5; cbv
        simp only [Res.ok]
        refine fun hit => ⟨[], rfl, fun b0 hb0 => ⟨_, rfl, ?_⟩⟩
        have hl0 : Hp.le HL (HL.add b0 0 []) := Hp.le_add fun o _ => hb0 o
        refine run_sound (E := E25 ⟨oW, oA, oS, oM, oBa, oBo, oBx, oBn, oE, oN, oL, oLe, oAnd, oOr, oNot, oBq, oSq, oMx, oMn, oC, oSz, oAd, oIx, oQu, oRe, oSl, oSr⟩ _) TEok hO Tm D25ok (PanicOk.lq (PanicOk.body _ _ _)) (Hp.le_refl _) 4000 _ _ ?_
        conv => arg 5; cbv
        simp only [Res.ok]
        refine fun hit => ⟨[], flatE (l.es.take n5), Rw.nil, (hs5.mono hl0).rw, flatE_one, Nat.le_refl _, by omega, fun hh => (by cases hh), fun h2 h3 => (by omega), fun A7 c7 G7 hn7 hle7 hx hc7 => ?_⟩
        have hsome := hn7.some0
        have hroom := fun (q : Nat) (hq : 0 < q) (h2 : 0 + n5 + q ≤ c7) => hn7.room0 hq h2
        obtain ⟨e1, e2, e3⟩ := hn7.same
        rw [Nat.zero_add, List.nil_append] at hx
        rw [Nat.zero_add] at hc7 hroom ⊢
        refine ⟨_, rfl, ?_⟩
        refine run_sound (E := E25 ⟨oW, oA, oS, oM, oBa, oBo, oBx, oBn, oE, oN, oL, oLe, oAnd, oOr, oNot, oBq, oSq, oMx, oMn, oC, oSz, oAd, oIx, oQu, oRe, oSl, oSr⟩ _) TEok hO Tm D25ok (PanicOk.lq (PanicOk.body _ _ _)) (Hp.le_refl _) 4000 _ _ ?_
        conv => arg 5; cbv
        simp only [Res.ok]
        refine fun hit => ⟨flatE (l.es.take n5), flatE (es2.drop k), hx, (hslK.mono (Hp.le_trans hl0 hle7)).rw, flatE_one, hc7, by omega, fun hh => absurd hh hsome, fun hq h3 => hroom _ hq h3, fun A9 c9 G9 hn9 hle9 hrw hc9 => ?_⟩
        obtain ⟨f1, f2, f3⟩ := hn9.same
        refine ⟨_, rfl, ?_⟩
        rw [← flatE_append] at hrw
        have hsv : SVok G9.H A9 (n5 + n6) c9 (l.es.take n5 ++ es2.drop k) := SVok.of (by rw [List.length_append, ← hs5.1, ← hslK.1]) hc9 hrw
        obtain ⟨nn, hnn⟩ : ∃ nn, n5 + n6 = nn := ⟨_, rfl⟩
        rw [hnn] at hsv ⊢
        refine run_sound (E := E25 ⟨oW, oA, oS, oM, oBa, oBo, oBx, oBn, oE, oN, oL, oLe, oAnd, oOr, oNot, oBq, oSq, oMx, oMn, oC, oSz, oAd, oIx, oQu, oRe, oSl, oSr⟩ _) TEok hO Tm D25ok (PanicOk.lq (PanicOk.body _ _ _)) (Hp.le_refl _) 4000 _ _ ?_
        conv => arg 5; cbv
        simp only [Res.ok]
        refine FinG.leave rfl rfl ?_
        refine run_sound (E := E25 ⟨oW, oA, oS, oM, oBa, oBo, oBx, oBn, oE, oN, oL, oLe, oAnd, oOr, oNot, oBq, oSq, oMx, oMn, oC, oSz, oAd, oIx, oQu, oRe, oSl, oSr⟩ _) TEok hO Tm D25ok (PanicOk.body _ _ _) (Hp.le_refl _) 4000 _ _ ?_
        conv => arg 5; cbv
        simp only [Res.ok]
        rw [hlast]
        refine RetG.pc TEok C25r (f1.trans (e1.trans y1)) (f2.trans (e2.trans y2)) (f3.trans (e3.trans y3)) (fun _ => rfl) ?_
        refine hgoodR hg _ ⟨l.b, l.bt, l.j, A9, nn, c9, l.es.take n5 ++ es2.drop k⟩ ⟨rfl, rfl, rfl, ?_⟩ hsv
        show l.es.take n5 ++ es2.drop k = mergeEs l prev es2
        rw [hmE, hmis]
        show l.es.take n5 ++ es2.drop k = l.es.take (p - l.b + ((k - dd : Nat) : Int)).toNat ++ (es2.drop dd).drop (k - dd)
        rw [List.drop_drop, show dd + (k - dd) = k by omega, show (p - l.b + ((k - dd : Nat) : Int)).toNat = n5 by omega]
      · change oN t6 e.term = false at h7
        have h7 : t6 = e.term := by
          obtain ⟨rfl, rfl, rfl, rfl, rfl, rfl, rfl, rfl, rfl, rfl, rfl, rfl, rfl, rfl, rfl, rfl, rfl, rfl, rfl, rfl, rfl, rfl, rfl, rfl, rfl, rfl, rfl⟩ := Ops.mk.inj hO
          simpa [Ops.std] using h7
        rw [hk1]
        exact FinG.round [1, 3, 4, 8, 13, 14] (k + 1, HL) ⟨by simp only; omega, Hp.le_trans hleK0 hle33, .inr ⟨by have := agr_le hf (by omega) (by omega) (by omega) (hag.2 ⟨h7, hist⟩); simp only; omega, st1 ⟨h7, hist⟩⟩⟩ (by show n2 - (k + 1) < n2 - k; omega) rfl rfl
    · have hge : ¬ ki < n2 := by
        obtain ⟨rfl, rfl, rfl, rfl, rfl, rfl, rfl, rfl, rfl, rfl, rfl, rfl, rfl, rfl, rfl, rfl, rfl, rfl, rfl, rfl, rfl, rfl, rfl, rfl, rfl, rfl, rfl⟩ := Ops.mk.inj hO
        simpa [Ops.std] using hh
      refine FinG.leave rfl rfl ?_
      refine run_sound (E := E25 ⟨oW, oA, oS, oM, oBa, oBo, oBx, oBn, oE, oN, oL, oLe, oAnd, oOr, oNot, oBq, oSq, oMx, oMn, oC, oSz, oAd, oIx, oQu, oRe, oSl, oSr⟩ _) TEok hO Tm D25ok (PanicOk.body _ _ _) (Hp.le_refl _) 4000 _ _ ?_
      conv => arg 5; cbv
      simp only [Res.ok]
      rw [hlast]
      refine RetG.pc TEok C25r y1 y2 y3 (fun _ => rfl) ?_
      refine hgoodR hg _ ⟨l.b, l.bt, l.j, A3, l.n, c3, l.es⟩ ⟨rfl, rfl, rfl, ?_⟩ (hs3.mono hleK0)
      show l.es = mergeEs l prev es2
      have hdn : dd ≤ n2 := by
        apply Classical.byContradiction
        intro hlt
        exact hg (.inr (.inr (.inr ⟨by omega, by omega⟩)))
      have hnone : mism l p 0 (es2.drop dd) = none := by
        rcases hm with h | h
        · rw [List.drop_eq_nil_of_le (by omega)]; rfl
        · rw [h.2, List.drop_eq_nil_of_le (by omega)]; rfl
      rw [hmE, hnone]
  refine ⟨fun h1 => ?_, fun h1 => ?_⟩
  · change oLe l.b prev = true at h1
    have h1 : l.b ≤ prev := by
      obtain ⟨rfl, rfl, rfl, rfl, rfl, rfl, rfl, rfl, rfl, rfl, rfl, rfl, rfl, rfl, rfl, rfl, rfl, rfl, rfl, rfl, rfl, rfl, rfl, rfl, rfl, rfl, rfl⟩ := Ops.mk.inj hO
      simpa [Ops.std] using h1
    have cT := rTerm_pc l prev H1 (hl.mono hle1) hf ⟨by omega, by omega⟩
    have tis := LV.term_is (i := prev) hf ⟨by omega, by omega⟩
    obtain ⟨⟨t, is⟩, ht⟩ : ∃ y, l.term prev = y := ⟨_, rfl⟩
    rw [ht] at cT tis
    have hist : is = true := by simp only at tis; rw [tis]; simp; omega
    subst hist
    refine EvG.pure Try.call33 (fun _ => rfl) (cT) ?_
    rintro HC v hle2 rfl
    refine ⟨.tup [.c (.v (.int .i64 t)), .c (.v (.bool true))], _, fun _ => (by first | exact rfl | exact ⟨_, rfl, rfl⟩ | exact aggT_den _ _), rfl, ?_⟩
    have hC := Hp.le_trans hle1 hle2
    refine run_sound (E := E25 ⟨oW, oA, oS, oM, oBa, oBo, oBx, oBn, oE, oN, oL, oLe, oAnd, oOr, oNot, oBq, oSq, oMx, oMn, oC, oSz, oAd, oIx, oQu, oRe, oSl, oSr⟩ _) TEok hO Tm D25ok (PanicOk.body _ _ _) (Hp.le_refl _) 4000 _ _ ?_
    conv => arg 5; cbv
    simp only [Res.ok]
    refine ⟨fun h3 => ?_, fun h3 => ⟨fun h4 => ?_, fun h4 => ?_⟩⟩
    · have h3 : ¬ t = term := by
        obtain ⟨rfl, rfl, rfl, rfl, rfl, rfl, rfl, rfl, rfl, rfl, rfl, rfl, rfl, rfl, rfl, rfl, rfl, rfl, rfl, rfl, rfl, rfl, rfl, rfl, rfl, rfl, rfl⟩ := Ops.mk.inj hO
        simpa [Ops.std] using h3
      refine RetG.pc TEok C25r rfl rfl rfl (fun _ => rfl) (hbadR _ (.inr (.inr (.inl ⟨h1, ?_⟩))) hC)
      rw [ht]
      rintro ⟨-, h⟩
      exact h3 h
    · exfalso
      change oL (oC n2) (oS .i64 l.b prev) = true at h4
      have h4 : (n2 : Int) < l.b - prev := by
        obtain ⟨rfl, rfl, rfl, rfl, rfl, rfl, rfl, rfl, rfl, rfl, rfl, rfl, rfl, rfl, rfl, rfl, rfl, rfl, rfl, rfl, rfl, rfl, rfl, rfl, rfl, rfl, rfl⟩ := Ops.mk.inj hO
        have h4 : (n2 : Int) < IntKind.i64.wrap (l.b - prev) := by simpa [Ops.std] using h4
        rw [w64 (by omega) (by omega)] at h4
        exact h4
      omega
    · have h3 : t = term := by
        obtain ⟨rfl, rfl, rfl, rfl, rfl, rfl, rfl, rfl, rfl, rfl, rfl, rfl, rfl, rfl, rfl, rfl, rfl, rfl, rfl, rfl, rfl, rfl, rfl, rfl, rfl, rfl, rfl⟩ := Ops.mk.inj hO
        simpa [Ops.std] using h3
      have hg : ¬ mergeBad l prev term es2 := not_bad' (by omega) (by omega) (by omega) (h3 ▸ ht)
      refine fun hit => ⟨[], rfl, fun b0 hb0 => ⟨_, rfl, ?_⟩⟩
      have hl0 : Hp.le HC (HC.add b0 0 []) := Hp.le_add fun o _ => hb0 o
      refine run_sound (E := E25 ⟨oW, oA, oS, oM, oBa, oBo, oBx, oBn, oE, oN, oL, oLe, oAnd, oOr, oNot, oBq, oSq, oMx, oMn, oC, oSz, oAd, oIx, oQu, oRe, oSl, oSr⟩ _) TEok hO Tm D25ok (PanicOk.body _ _ _) (Hp.le_refl _) 4000 _ _ ?_
      conv => arg 5; cbv
      simp only [Res.ok]
      refine fun hit => ⟨[], flatE l.es, Rw.nil, ((SVok.lv hl).mono (Hp.le_trans hC hl0)).rw, flatE_one, Nat.le_refl _, by show 0 + l.n ≤ 1048576; omega, fun hh => (by cases hh), fun h2 h3 => (by have h2 : 0 < l.n := h2; have h3 : 0 + l.n ≤ 0 := h3; omega), fun A3 c3 G3 hn3 hle3 hx hc3 => ?_⟩
      obtain ⟨e1, e2, e3⟩ := hn3.same
      rw [Nat.zero_add, List.nil_append] at hx
      rw [Nat.zero_add] at hc3 ⊢
      refine ⟨_, rfl, ?_⟩
      refine run_sound (E := E25 ⟨oW, oA, oS, oM, oBa, oBo, oBx, oBn, oE, oN, oL, oLe, oAnd, oOr, oNot, oBq, oSq, oMx, oMn, oC, oSz, oAd, oIx, oQu, oRe, oSl, oSr⟩ _) TEok hO Tm D25ok (PanicOk.body _ _ _) (Hp.le_refl _) 4000 _ _ ?_
      conv => arg 5; cbv
      simp only [Res.ok]
      exact loop A3 c3 G3 _ hg e1 e2 e3 (Hp.le_trans hC (Hp.le_trans hl0 hle3)) (SVok.of hln hc3 hx) rfl rfl rfl
  · change oLe l.b prev = false at h1
    have h1 : ¬ l.b ≤ prev := by
      obtain ⟨rfl, rfl, rfl, rfl, rfl, rfl, rfl, rfl, rfl, rfl, rfl, rfl, rfl, rfl, rfl, rfl, rfl, rfl, rfl, rfl, rfl, rfl, rfl, rfl, rfl, rfl, rfl⟩ := Ops.mk.inj hO
      simpa [Ops.std] using h1
    have hws : IntKind.i64.wrap (l.b - prev) = l.b - prev := w64 (by omega) (by omega)
    refine ⟨fun h4 => ?_, fun h4 => ?_⟩
    · change oL (oC n2) (oS .i64 l.b prev) = true at h4
      have h4 : (n2 : Int) < l.b - prev := by
        rw [← hws]
        obtain ⟨rfl, rfl, rfl, rfl, rfl, rfl, rfl, rfl, rfl, rfl, rfl, rfl, rfl, rfl, rfl, rfl, rfl, rfl, rfl, rfl, rfl, rfl, rfl, rfl, rfl, rfl, rfl⟩ := Ops.mk.inj hO
        simpa [Ops.std] using h4
      exact RetG.pc TEok C25r rfl rfl rfl (fun _ => rfl) (hbadR _ (.inr (.inr (.inr ⟨by omega, by omega⟩))) hle1)
    · change oL (oC n2) (oS .i64 l.b prev) = false at h4
      have h4 : ¬ (n2 : Int) < l.b - prev := by
        rw [← hws]
        obtain ⟨rfl, rfl, rfl, rfl, rfl, rfl, rfl, rfl, rfl, rfl, rfl, rfl, rfl, rfl, rfl, rfl, rfl, rfl, rfl, rfl, rfl, rfl, rfl, rfl, rfl, rfl, rfl⟩ := Ops.mk.inj hO
        simpa [Ops.std] using h4
      have hg : ¬ mergeBad l prev term es2 := by
        rintro (h | h | h | h)
        · omega
        · omega
        · omega
        · omega
      have hC := hle1
      refine fun hit => ⟨[], rfl, fun b0 hb0 => ⟨_, rfl, ?_⟩⟩
      have hl0 : Hp.le H1 (H1.add b0 0 []) := Hp.le_add fun o _ => hb0 o
      refine run_sound (E := E25 ⟨oW, oA, oS, oM, oBa, oBo, oBx, oBn, oE, oN, oL, oLe, oAnd, oOr, oNot, oBq, oSq, oMx, oMn, oC, oSz, oAd, oIx, oQu, oRe, oSl, oSr⟩ _) TEok hO Tm D25ok (PanicOk.body _ _ _) (Hp.le_refl _) 4000 _ _ ?_
      conv => arg 5; cbv
      simp only [Res.ok]
      refine fun hit => ⟨[], flatE l.es, Rw.nil, ((SVok.lv hl).mono (Hp.le_trans hC hl0)).rw, flatE_one, Nat.le_refl _, by show 0 + l.n ≤ 1048576; omega, fun hh => (by cases hh), fun h2 h3 => (by have h2 : 0 < l.n := h2; have h3 : 0 + l.n ≤ 0 := h3; omega), fun A3 c3 G3 hn3 hle3 hx hc3 => ?_⟩
      obtain ⟨e1, e2, e3⟩ := hn3.same
      rw [Nat.zero_add, List.nil_append] at hx
      rw [Nat.zero_add] at hc3 ⊢
      refine ⟨_, rfl, ?_⟩
      refine run_sound (E := E25 ⟨oW, oA, oS, oM, oBa, oBo, oBx, oBn, oE, oN, oL, oLe, oAnd, oOr, oNot, oBq, oSq, oMx, oMn, oC, oSz, oAd, oIx, oQu, oRe, oSl, oSr⟩ _) TEok hO Tm D25ok (PanicOk.body _ _ _) (Hp.le_refl _) 4000 _ _ ?_
      conv => arg 5; cbv
      simp only [Res.ok]
      exact loop A3 c3 G3 _ hg e1 e2 e3 (Hp.le_trans hC (Hp.le_trans hl0 hle3)) (SVok.of hln hc3 hx) rfl rfl rfl
end Go.Sx
