/- Contracts: copies and pushes of logs. -/
import Derived.Test.YtkmplcpibgnjcaaE13
import Derived.Test.YtkmplcpibgnjcaaE12
namespace Go.Sx
open Go.Proofs Go.RowKit

theorem AppNext.room0 {G G' : Gh} {k : Nat} {e : TypeId} {A A' : Option Addr} {c' m : Nat} {xs ys : List Value} (h : AppNext G k e A 0 0 m xs ys A' c' G') {p : Nat} (hp : 0 < p) (hc : 0 + m + p ≤ c') : ∃ b, A' = some ⟨b, 0, none⟩ ∧ ⟨b, 0 + m, c', k, e⟩ ∈ G'.R := by
  rcases h with ⟨rfl, rfl, rfl, rfl⟩ | ⟨b, h1, rfl, rfl, _, _, rfl⟩ | ⟨b, _, rfl, _, rfl⟩
  · omega
  · exact ⟨b, h1, List.mem_cons_self⟩
  · exact ⟨b, rfl, List.mem_cons_self⟩
theorem AppNext.some0 {G G' : Gh} {k : Nat} {e : TypeId} {a : Addr} {A' : Option Addr} {n c c' m : Nat} {xs ys : List Value} (h : AppNext G k e (some a) n c m xs ys A' c' G') : A' ≠ none := by
  rcases h with ⟨_, rfl, _, _⟩ | ⟨b, _, rfl, _⟩ | ⟨b, _, rfl, _⟩ <;> simp
noncomputable def C23 : Code := fbody Try.f23
theorem C23b : Try.f23.body = some C23 := by kernel_rfl
theorem C23r : Try.f23.results.toList = [.cell 2 32] := by kernel_rfl
def D23 : List (List Nat) := []
theorem D23ok : drOk C23 D23 = true := by kernel_rfl
noncomputable def E23 (O : Ops) (H : Hp) : Env := ⟨O, H, TE, C23, [.cell 2 32], D23⟩
theorem Copy_pc (l : LV) (H : Hp) (hl : l.ok H) (hb : l.n ≤ 1000) : PC Try.prog 23 [aggV l.cs] H fun H' v => ∃ l' : LV, v = aggV l'.cs ∧ l'.ok H' ∧ SameBut l l' l.es := by
  refine PC.enter [aggT l.cs] Try.func23 C23b rfl 9 Try.ntmps23 (by simp) fun w hw => ?_
  refine ops_open fun oW oA oS oM oBa oBo oBx oBn oE oN oL oLe oAnd oOr oNot oBq oSq oMx oMn oC oSz oAd oIx oQu oRe oSl oSr hO => ?_
  refine run_sound (E := E23 ⟨oW, oA, oS, oM, oBa, oBo, oBx, oBn, oE, oN, oL, oLe, oAnd, oOr, oNot, oBq, oSq, oMx, oMn, oC, oSz, oAd, oIx, oQu, oRe, oSl, oSr⟩ _) TEok hO Tm D23ok (PanicOk.body _ _ _) (Hp.le_refl _) 4000 _ _ ?_
  conv => arg 5; cbv
  simp only [Res.ok]
  refine fun hit => ⟨[], rfl, fun b hb => ⟨_, rfl, ?_⟩⟩
  have hle : Hp.le H (H.add b 0 []) := Hp.le_add fun o _ => hb o
  refine run_sound (E := E23 ⟨oW, oA, oS, oM, oBa, oBo, oBx, oBn, oE, oN, oL, oLe, oAnd, oOr, oNot, oBq, oSq, oMx, oMn, oC, oSz, oAd, oIx, oQu, oRe, oSl, oSr⟩ _) TEok hO Tm D23ok (PanicOk.body _ _ _) (Hp.le_refl _) 4000 _ _ ?_
  conv => arg 5; cbv
  simp only [Res.ok]
  refine fun hit => ⟨[], flatE l.es, Rw.nil, ((SVok.lv hl).mono hle).rw, flatE_one, Nat.le_refl _, by show 0 + l.n ≤ 1048576; omega, fun hh => (by cases hh), fun h2 h3 => (by have h2 : 0 < l.n := h2; have h3 : 0 + l.n ≤ 0 := h3; omega), fun A' c' G' hn' hle' hrw hc' => ?_⟩
  rw [Nat.zero_add] at hrw hc' ⊢
  obtain ⟨e1, e2, e3⟩ := hn'.same
  refine ⟨_, rfl, ?_⟩
  refine run_sound (E := E23 ⟨oW, oA, oS, oM, oBa, oBo, oBx, oBn, oE, oN, oL, oLe, oAnd, oOr, oNot, oBq, oSq, oMx, oMn, oC, oSz, oAd, oIx, oQu, oRe, oSl, oSr⟩ _) TEok hO Tm D23ok (PanicOk.body _ _ _) (Hp.le_refl _) 4000 _ _ ?_
  conv => arg 5; cbv
  simp only [Res.ok]
  exact RetG.pc TEok C23r e1 e2 e3 (fun _ => rfl) ⟨⟨l.b, l.bt, l.j, A', l.n, c', l.es⟩, rfl, SVok.of hl.1 hc' hrw, rfl, rfl, rfl, rfl⟩
noncomputable def C24 : Code := fbody Try.f24
theorem C24b : Try.f24.body = some C24 := by kernel_rfl
theorem C24r : Try.f24.results.toList = [.cell 4 32] := by kernel_rfl
def D24 : List (List Nat) := []
theorem D24ok : drOk C24 D24 = true := by kernel_rfl
noncomputable def E24 (O : Ops) (H : Hp) : Env := ⟨O, H, TE, C24, [.cell 4 32], D24⟩
theorem Push_pcr (l : LV) (e : Entry) (H : Hp) (hl : l.ok H) (hb : l.n ≤ 1000) : PCR Try.prog 24 [aggV l.cs, aggV e.cs] H fun H' Ro v => ∃ l' : LV, v = aggV l'.cs ∧ l'.ok H' ∧ SameBut l l' (l.es ++ [e]) ∧ OwnR Ro l'.A l'.n l'.c 14 47 := by
  refine PCR.enter [aggT l.cs, aggT e.cs] Try.func24 C24b rfl 12 Try.ntmps24 (by simp) fun w hw => ?_
  refine ops_open fun oW oA oS oM oBa oBo oBx oBn oE oN oL oLe oAnd oOr oNot oBq oSq oMx oMn oC oSz oAd oIx oQu oRe oSl oSr hO => ?_
  have hcn : oC l.n = l.n := by
    obtain ⟨rfl, rfl, rfl, rfl, rfl, rfl, rfl, rfl, rfl, rfl, rfl, rfl, rfl, rfl, rfl, rfl, rfl, rfl, rfl, rfl, rfl, rfl, rfl, rfl, rfl, rfl, rfl⟩ := Ops.mk.inj hO
    rfl
  obtain ⟨nl, hnl⟩ : ∃ nl : Int, (l.n : Int) = nl := ⟨_, rfl⟩
  rw [hnl] at hcn
  change oC l.5 = _ at hcn
  refine run_sound (E := E24 ⟨oW, oA, oS, oM, oBa, oBo, oBx, oBn, oE, oN, oL, oLe, oAnd, oOr, oNot, oBq, oSq, oMx, oMn, oC, oSz, oAd, oIx, oQu, oRe, oSl, oSr⟩ _) TEok hO Tm D24ok (PanicOk.body _ _ _) (Hp.le_refl _) 4000 _ _ ?_
  conv => arg 5; cbv
  simp only [Res.ok]
  refine fun hit => ⟨flatE [e], rfl, fun b hb => ⟨_, rfl, ?_⟩⟩
  have hle : Hp.le H (H.add b 0 (flatE [e])) := Hp.le_add fun o _ => hb o
  have hsv : SVok (H.add b 0 (flatE [e])) (some ⟨b, 0, none⟩) 1 1 [e] := SVok.fresh rfl (Nat.le_refl _)
  have hF := Front_pcr l nl (some ⟨b, 0, none⟩) 1 1 [e] _ (hl.mono hle) hsv (by omega) (by omega) (by omega)
  rw [show l.es.take nl.toNat = l.es by rw [List.take_of_length_le (by rw [← hl.1]; omega)]] at hF
  refine run_sound (E := E24 ⟨oW, oA, oS, oM, oBa, oBo, oBx, oBn, oE, oN, oL, oLe, oAnd, oOr, oNot, oBq, oSq, oMx, oMn, oC, oSz, oAd, oIx, oQu, oRe, oSl, oSr⟩ _) TEok hO Tm D24ok (PanicOk.body _ _ _) (Hp.le_refl _) 4000 _ _ ?_
  conv => arg 5; cbv
  simp only [Res.ok]
  rw [hcn]
  refine EvG.pcr Try.call60 (fun _ => rfl) (hF) ?_
  rintro H1 Ro v hle1 ⟨l', rfl, h1, h2, h3, h4, h5, h6⟩ -
  refine ⟨.t (aggT l'.cs), _, fun _ => (by first | exact rfl | exact ⟨_, rfl, rfl⟩ | exact aggT_den _ _), rfl, ?_⟩
  refine run_sound (E := E24 ⟨oW, oA, oS, oM, oBa, oBo, oBx, oBn, oE, oN, oL, oLe, oAnd, oOr, oNot, oBq, oSq, oMx, oMn, oC, oSz, oAd, oIx, oQu, oRe, oSl, oSr⟩ _) TEok hO Tm D24ok (PanicOk.body _ _ _) (Hp.le_refl _) 4000 _ _ ?_
  conv => arg 5; cbv
  simp only [Res.ok]
  exact RetG.pcr TEok C24r rfl rfl rfl (List.sublist_append_left Ro _) (fun _ => rfl) ⟨l', rfl, h1, ⟨h2, h3, h4, h5⟩, h6⟩
noncomputable def C27 : Code := fbody Try.f27
theorem C27b : Try.f27.body = some C27 := by kernel_rfl
theorem C27r : Try.f27.results.toList = [.cell 4 32] := by kernel_rfl
def D27 : List (List Nat) := [[0, 1]]
theorem D27ok : drOk C27 D27 = true := by kernel_rfl
noncomputable def E27 (O : Ops) (H : Hp) : Env := ⟨O, H, TE, C27, [.cell 4 32], D27⟩
set_option maxRecDepth 100000 in
theorem rPush_pc (l : LV) (e : Entry) (H : Hp) (hl : l.ok H) (hb : l.n ≤ 1000) : PC Try.prog 27 [aggV l.cs, aggV e.cs] H fun H' v => ∃ l' : LV, v = aggV l'.cs ∧ l'.ok H' ∧ SameBut l l' (l.es ++ [e]) := by
  refine PC.enter [aggT l.cs, aggT e.cs] Try.func27 C27b rfl 14 Try.ntmps27 (by simp) fun w hw => ?_
  refine ops_open fun oW oA oS oM oBa oBo oBx oBn oE oN oL oLe oAnd oOr oNot oBq oSq oMx oMn oC oSz oAd oIx oQu oRe oSl oSr hO => ?_
  refine run_sound (E := E27 ⟨oW, oA, oS, oM, oBa, oBo, oBx, oBn, oE, oN, oL, oLe, oAnd, oOr, oNot, oBq, oSq, oMx, oMn, oC, oSz, oAd, oIx, oQu, oRe, oSl, oSr⟩ _) TEok hO Tm D27ok (PanicOk.body _ _ _) (Hp.le_refl _) 4000 _ _ ?_
  conv => arg 5; cbv
  simp only [Res.ok]
  refine ⟨?_, ?_⟩
  · have hc := Hp.le_refl H
    refine fun hit => ⟨[], rfl, fun b0 hb0 => ⟨_, rfl, ?_⟩⟩
    have hl0 : Hp.le H (H.add b0 0 []) := Hp.le_add fun o _ => hb0 o
    replace hc := Hp.le_trans hc hl0
    refine run_sound (E := E27 ⟨oW, oA, oS, oM, oBa, oBo, oBx, oBn, oE, oN, oL, oLe, oAnd, oOr, oNot, oBq, oSq, oMx, oMn, oC, oSz, oAd, oIx, oQu, oRe, oSl, oSr⟩ _) TEok hO Tm D27ok (PanicOk.body _ _ _) (Hp.le_refl _) 4000 _ _ ?_
    conv => arg 5; cbv
    simp only [Res.ok]
    refine ⟨?_, ?_⟩
    · refine fun hit => ⟨[], flatE l.es, Rw.nil, ((SVok.lv hl).mono hc).rw, flatE_one, Nat.le_refl _, by show 0 + l.n ≤ 1048576; omega, fun hh => (by cases hh), fun h2 h3 => (by have h2 : 0 < l.n := h2; have h3 : 0 + l.n ≤ 0 := h3; omega), fun A3 c3 G3 hn3 hle3 hx hc3 => ?_⟩
      have hsome := hn3.some0
      have hroom := fun (h2 : 0 + l.n + 1 ≤ c3) => hn3.room0 Nat.one_pos h2
      obtain ⟨e1, e2, e3⟩ := hn3.same
      rw [Nat.zero_add, List.nil_append] at hx
      rw [Nat.zero_add] at hc3 hroom ⊢
      refine ⟨_, rfl, ?_⟩
      replace hc := Hp.le_trans hc hle3
      refine run_sound (E := E27 ⟨oW, oA, oS, oM, oBa, oBo, oBx, oBn, oE, oN, oL, oLe, oAnd, oOr, oNot, oBq, oSq, oMx, oMn, oC, oSz, oAd, oIx, oQu, oRe, oSl, oSr⟩ _) TEok hO Tm D27ok (PanicOk.body _ _ _) (Hp.le_refl _) 4000 _ _ ?_
      conv => arg 5; cbv
      simp only [Res.ok]
      refine fun hit => ⟨flatE [e], rfl, fun b5 hb5 => ⟨_, rfl, ?_⟩⟩
      have hl5 : Hp.le G3.H (G3.H.add b5 0 (flatE [e])) := Hp.le_add fun o _ => hb5 o
      replace hc := Hp.le_trans hc hl5
      have hy : Rw (G3.H.add b5 0 (flatE [e])) 14 (some ⟨b5, 0, none⟩) 1 (flatE [e]) := Rw.fresh rfl
      replace hx := hx.mono hl5
      refine run_sound (E := E27 ⟨oW, oA, oS, oM, oBa, oBo, oBx, oBn, oE, oN, oL, oLe, oAnd, oOr, oNot, oBq, oSq, oMx, oMn, oC, oSz, oAd, oIx, oQu, oRe, oSl, oSr⟩ _) TEok hO Tm D27ok (PanicOk.body _ _ _) (Hp.le_refl _) 4000 _ _ ?_
      conv => arg 5; cbv
      simp only [Res.ok]
      refine fun hit => ⟨flatE l.es, flatE [e], hx, hy, flatE_one, hc3, by show l.n + 1 ≤ 1048576; omega, fun hh => absurd hh hsome, fun _ h3 => hroom h3, fun A' c' G' hn' hle' hrw hc' => ?_⟩
      obtain ⟨f1, f2, f3⟩ := hn'.same
      refine ⟨_, rfl, ?_⟩
      obtain ⟨nn, hnn⟩ : ∃ nn, l.n + 1 = nn := ⟨_, rfl⟩
      skip
      rw [← flatE_append] at hrw
      have hsv : SVok G'.H A' (l.n + 1) c' (l.es ++ [e]) := SVok.of (by rw [List.length_append, ← hl.1]; rfl) hc' hrw
      change SVok G'.H A' (l.5 + 1) c' (l.es ++ [e]) at hsv
      change l.5 + 1 = nn at hnn
      rw [hnn] at hsv ⊢
      refine run_sound (E := E27 ⟨oW, oA, oS, oM, oBa, oBo, oBx, oBn, oE, oN, oL, oLe, oAnd, oOr, oNot, oBq, oSq, oMx, oMn, oC, oSz, oAd, oIx, oQu, oRe, oSl, oSr⟩ _) TEok hO Tm D27ok (PanicOk.body _ _ _) (Hp.le_refl _) 4000 _ _ ?_
      conv => arg 5; cbv
      simp only [Res.ok]
      exact RetG.pc TEok C27r (f1.trans e1) (f2.trans e2) (f3.trans e3) (fun _ => rfl) ⟨⟨l.b, l.bt, l.j, A', nn, c', l.es ++ [e]⟩, rfl, hsv, rfl, rfl, rfl, rfl⟩
    · refine fun hit => ⟨flatE [e], rfl, fun b5 hb5 => ⟨_, rfl, ?_⟩⟩
      have hl5 : Hp.le (H.add b0 0 []) ((H.add b0 0 []).add b5 0 (flatE [e])) := Hp.le_add fun o _ => hb5 o
      replace hc := Hp.le_trans hc hl5
      have hy : Rw ((H.add b0 0 []).add b5 0 (flatE [e])) 14 (some ⟨b5, 0, none⟩) 1 (flatE [e]) := Rw.fresh rfl
      refine run_sound (E := E27 ⟨oW, oA, oS, oM, oBa, oBo, oBx, oBn, oE, oN, oL, oLe, oAnd, oOr, oNot, oBq, oSq, oMx, oMn, oC, oSz, oAd, oIx, oQu, oRe, oSl, oSr⟩ _) TEok hO Tm D27ok (PanicOk.body _ _ _) (Hp.le_refl _) 4000 _ _ ?_
      conv => arg 5; cbv
      simp only [Res.ok]
      refine fun hit => ⟨[], flatE l.es, Rw.nil, ((SVok.lv hl).mono hc).rw, flatE_one, Nat.le_refl _, by show 0 + l.n ≤ 1048576; omega, fun hh => (by cases hh), fun h2 h3 => (by have h2 : 0 < l.n := h2; have h3 : 0 + l.n ≤ 0 := h3; omega), fun A3 c3 G3 hn3 hle3 hx hc3 => ?_⟩
      have hsome := hn3.some0
      have hroom := fun (h2 : 0 + l.n + 1 ≤ c3) => hn3.room0 Nat.one_pos h2
      obtain ⟨e1, e2, e3⟩ := hn3.same
      rw [Nat.zero_add, List.nil_append] at hx
      rw [Nat.zero_add] at hc3 hroom ⊢
      refine ⟨_, rfl, ?_⟩
      replace hc := Hp.le_trans hc hle3
      replace hy := hy.mono hle3
      refine run_sound (E := E27 ⟨oW, oA, oS, oM, oBa, oBo, oBx, oBn, oE, oN, oL, oLe, oAnd, oOr, oNot, oBq, oSq, oMx, oMn, oC, oSz, oAd, oIx, oQu, oRe, oSl, oSr⟩ _) TEok hO Tm D27ok (PanicOk.body _ _ _) (Hp.le_refl _) 4000 _ _ ?_
      conv => arg 5; cbv
      simp only [Res.ok]
      refine fun hit => ⟨flatE l.es, flatE [e], hx, hy, flatE_one, hc3, by show l.n + 1 ≤ 1048576; omega, fun hh => absurd hh hsome, fun _ h3 => hroom h3, fun A' c' G' hn' hle' hrw hc' => ?_⟩
      obtain ⟨f1, f2, f3⟩ := hn'.same
      refine ⟨_, rfl, ?_⟩
      obtain ⟨nn, hnn⟩ : ∃ nn, l.n + 1 = nn := ⟨_, rfl⟩
      skip
      rw [← flatE_append] at hrw
      have hsv : SVok G'.H A' (l.n + 1) c' (l.es ++ [e]) := SVok.of (by rw [List.length_append, ← hl.1]; rfl) hc' hrw
      change SVok G'.H A' (l.5 + 1) c' (l.es ++ [e]) at hsv
      change l.5 + 1 = nn at hnn
      rw [hnn] at hsv ⊢
      refine run_sound (E := E27 ⟨oW, oA, oS, oM, oBa, oBo, oBx, oBn, oE, oN, oL, oLe, oAnd, oOr, oNot, oBq, oSq, oMx, oMn, oC, oSz, oAd, oIx, oQu, oRe, oSl, oSr⟩ _) TEok hO Tm D27ok (PanicOk.body _ _ _) (Hp.le_refl _) 4000 _ _ ?_
      conv => arg 5; cbv
      simp only [Res.ok]
      exact RetG.pc TEok C27r (f1.trans e1) (f2.trans e2) (f3.trans e3) (fun _ => rfl) ⟨⟨l.b, l.bt, l.j, A', nn, c', l.es ++ [e]⟩, rfl, hsv, rfl, rfl, rfl, rfl⟩
  · have hc := Hp.le_refl H
    refine fun hit => ⟨flatE [e], rfl, fun b5 hb5 => ⟨_, rfl, ?_⟩⟩
    have hl5 : Hp.le H (H.add b5 0 (flatE [e])) := Hp.le_add fun o _ => hb5 o
    replace hc := Hp.le_trans hc hl5
    have hy : Rw (H.add b5 0 (flatE [e])) 14 (some ⟨b5, 0, none⟩) 1 (flatE [e]) := Rw.fresh rfl
    refine run_sound (E := E27 ⟨oW, oA, oS, oM, oBa, oBo, oBx, oBn, oE, oN, oL, oLe, oAnd, oOr, oNot, oBq, oSq, oMx, oMn, oC, oSz, oAd, oIx, oQu, oRe, oSl, oSr⟩ _) TEok hO Tm D27ok (PanicOk.body _ _ _) (Hp.le_refl _) 4000 _ _ ?_
    conv => arg 5; cbv
    simp only [Res.ok]
    refine fun hit => ⟨[], rfl, fun b0 hb0 => ⟨_, rfl, ?_⟩⟩
    have hl0 : Hp.le (H.add b5 0 (flatE [e])) ((H.add b5 0 (flatE [e])).add b0 0 []) := Hp.le_add fun o _ => hb0 o
    replace hc := Hp.le_trans hc hl0
    replace hy := hy.mono hl0
    refine run_sound (E := E27 ⟨oW, oA, oS, oM, oBa, oBo, oBx, oBn, oE, oN, oL, oLe, oAnd, oOr, oNot, oBq, oSq, oMx, oMn, oC, oSz, oAd, oIx, oQu, oRe, oSl, oSr⟩ _) TEok hO Tm D27ok (PanicOk.body _ _ _) (Hp.le_refl _) 4000 _ _ ?_
    conv => arg 5; cbv
    simp only [Res.ok]
    refine fun hit => ⟨[], flatE l.es, Rw.nil, ((SVok.lv hl).mono hc).rw, flatE_one, Nat.le_refl _, by show 0 + l.n ≤ 1048576; omega, fun hh => (by cases hh), fun h2 h3 => (by have h2 : 0 < l.n := h2; have h3 : 0 + l.n ≤ 0 := h3; omega), fun A3 c3 G3 hn3 hle3 hx hc3 => ?_⟩
    have hsome := hn3.some0
    have hroom := fun (h2 : 0 + l.n + 1 ≤ c3) => hn3.room0 Nat.one_pos h2
    obtain ⟨e1, e2, e3⟩ := hn3.same
    rw [Nat.zero_add, List.nil_append] at hx
    rw [Nat.zero_add] at hc3 hroom ⊢
    refine ⟨_, rfl, ?_⟩
    replace hc := Hp.le_trans hc hle3
    replace hy := hy.mono hle3
    refine run_sound (E := E27 ⟨oW, oA, oS, oM, oBa, oBo, oBx, oBn, oE, oN, oL, oLe, oAnd, oOr, oNot, oBq, oSq, oMx, oMn, oC, oSz, oAd, oIx, oQu, oRe, oSl, oSr⟩ _) TEok hO Tm D27ok (PanicOk.body _ _ _) (Hp.le_refl _) 4000 _ _ ?_
    conv => arg 5; cbv
    simp only [Res.ok]
    refine fun hit => ⟨flatE l.es, flatE [e], hx, hy, flatE_one, hc3, by show l.n + 1 ≤ 1048576; omega, fun hh => absurd hh hsome, fun _ h3 => hroom h3, fun A' c' G' hn' hle' hrw hc' => ?_⟩
    obtain ⟨f1, f2, f3⟩ := hn'.same
    refine ⟨_, rfl, ?_⟩
    obtain ⟨nn, hnn⟩ : ∃ nn, l.n + 1 = nn := ⟨_, rfl⟩
    skip
    rw [← flatE_append] at hrw
    have hsv : SVok G'.H A' (l.n + 1) c' (l.es ++ [e]) := SVok.of (by rw [List.length_append, ← hl.1]; rfl) hc' hrw
    change SVok G'.H A' (l.5 + 1) c' (l.es ++ [e]) at hsv
    change l.5 + 1 = nn at hnn
    rw [hnn] at hsv ⊢
    refine run_sound (E := E27 ⟨oW, oA, oS, oM, oBa, oBo, oBx, oBn, oE, oN, oL, oLe, oAnd, oOr, oNot, oBq, oSq, oMx, oMn, oC, oSz, oAd, oIx, oQu, oRe, oSl, oSr⟩ _) TEok hO Tm D27ok (PanicOk.body _ _ _) (Hp.le_refl _) 4000 _ _ ?_
    conv => arg 5; cbv
    simp only [Res.ok]
    exact RetG.pc TEok C27r (f1.trans e1) (f2.trans e2) (f3.trans e3) (fun _ => rfl) ⟨⟨l.b, l.bt, l.j, A', nn, c', l.es ++ [e]⟩, rfl, hsv, rfl, rfl, rfl, rfl⟩
end Go.Sx
