/- Contracts: the reference's Slice. -/
import Derived.Test.YtkmplcpibgnjcaaE20
namespace Go.Sx
open Go.Proofs Go.RowKit

def LV.rslc (l : LV) (f m : Int) : List Entry := (l.es.drop (max f (l.b + 1) - l.b - 1).toNat).take m.toNat
theorem rslc_eq {l : LV} (hf : l.fine) (hn : l.n = l.es.length) {f m : Int} (hi : In64 f) : l.slc f m = l.rslc f m := by
  obtain ⟨g1, g2, g3⟩ := hf
  obtain ⟨i1, i2⟩ := hi
  unfold LV.slc LV.rslc LV.cut
  by_cases h : f > l.b
  · rw [if_pos h, w64 (n := f - l.b) (by omega) (by omega), w64 (by omega) (by omega)]
    by_cases h2 : f - l.b - 1 ≤ l.n
    · rw [show (min (max (f - l.b - 1) 0) (l.n : Int)).toNat = (max f (l.b + 1) - l.b - 1).toNat by omega]
      apply List.ext_getElem?
      intro j
      rw [List.getElem?_take, List.getElem?_take]
      by_cases hj : j < m.toNat
      · rw [if_pos hj]
        split
        · rfl
        · rw [List.getElem?_eq_none]
          rw [List.length_drop]; omega
      · rw [if_neg hj, if_neg (by omega)]
    · rw [List.drop_eq_nil_of_le (by omega), List.drop_eq_nil_of_le (by omega)]
      simp
  · rw [if_neg h, show (max f (l.b + 1) - l.b - 1).toNat = 0 by omega]
    simp only [Int.toNat_zero, List.drop_zero, Nat.sub_zero]
    apply List.ext_getElem?
    intro j
    rw [List.getElem?_take, List.getElem?_take]
    by_cases hj : j < m.toNat
    · rw [if_pos hj]
      split
      · rfl
      · rw [List.getElem?_eq_none (by omega)]
    · rw [if_neg hj, if_neg (by omega)]
structure Sk where
  k : Nat
  A : Option Addr
  n : Nat
  c : Nat
  G : Gh
structure Sk.ok (x : Sk) (w : World) (H : Hp) (es : List Entry) (m : Int) : Prop where
  w0 : x.G.w0 = w
  M : x.G.M = fun _ => False
  H0 : x.G.H0 = H
  le : Hp.le H x.G.H
  k : x.n = x.k
  kl : x.k ≤ es.length
  km : (x.k : Int) ≤ max m 0
  sv : SVok x.G.H x.A x.n x.c (es.take x.k)
  own : Own x.G x.A x.n x.c 14 47
noncomputable def C37 : Code := fbody Try.f37
theorem C37b : Try.f37.body = some C37 := by kernel_rfl
theorem C37r : Try.f37.results.toList = [.tmp 6] := by kernel_rfl
def D37 : List (List Nat) := []
theorem D37ok : drOk C37 D37 = true := by kernel_rfl
noncomputable def E37 (O : Ops) (H : Hp) : Env := ⟨O, H, TE, C37, [.tmp 6], D37⟩
set_option maxRecDepth 100000 in
theorem rSlice_pc (l : LV) (f m : Int) (H : Hp) (hl : l.ok H) (hf : l.fine) (hi : In64 f) : PC Try.prog 37 [aggV l.cs, .int .i64 f, .int .i64 m] H fun H' v => ∃ A' n' c', v = .slice A' n' c' ∧ SVok H' A' n' c' (l.rslc f m) := by
  obtain ⟨g1, g2, g3⟩ := id hf
  obtain ⟨i1, i2⟩ := id hi
  have cL := fun H' => rLast_pc l H'
  rw [LV.lastW_eq hf] at cL
  obtain ⟨lw, hlw⟩ : ∃ x, l.b + l.n = x := ⟨_, rfl⟩
  rw [hlw] at cL
  have hln := hl.1
  refine PC.enter [aggT l.cs, .c (.v (.int .i64 f)), .c (.v (.int .i64 m))] Try.func37 C37b rfl 39 Try.ntmps37 (by simp) fun w hw => ?_
  refine ops_open fun oW oA oS oM oBa oBo oBx oBn oE oN oL oLe oAnd oOr oNot oBq oSq oMx oMn oC oSz oAd oIx oQu oRe oSl oSr hO => ?_
  have hmx : oMx f (oA .i64 l.b 1) = max f (l.b + 1) := by
    obtain ⟨rfl, rfl, rfl, rfl, rfl, rfl, rfl, rfl, rfl, rfl, rfl, rfl, rfl, rfl, rfl, rfl, rfl, rfl, rfl, rfl, rfl, rfl, rfl, rfl, rfl, rfl, rfl⟩ := Ops.mk.inj hO
    show (if IntKind.i64.wrap (l.b + 1) > f then IntKind.i64.wrap (l.b + 1) else f) = _
    rw [w64 (by omega) (by omega)]
    omega
  change oMx f (oA .i64 l.1 1) = _ at hmx
  refine run_sound (E := E37 ⟨oW, oA, oS, oM, oBa, oBo, oBx, oBn, oE, oN, oL, oLe, oAnd, oOr, oNot, oBq, oSq, oMx, oMn, oC, oSz, oAd, oIx, oQu, oRe, oSl, oSr⟩ _) TEok hO Tm D37ok (PanicOk.body _ _ _) (Hp.le_refl _) 4000 _ _ ?_
  conv => arg 5; cbv
  simp only [Res.ok]
  rw [hmx]
  obtain ⟨s0, hs0⟩ : ∃ x, max f (l.b + 1) = x := ⟨_, rfl⟩
  have hsl : l.rslc f m = (l.es.drop (s0 - l.b - 1).toNat).take m.toNat := by unfold LV.rslc; rw [hs0]
  rw [hs0, hsl]
  have hs1 : l.b + 1 ≤ s0 := by omega
  obtain ⟨es, hes⟩ : ∃ x, l.es.drop (s0 - l.b - 1).toNat = x := ⟨_, rfl⟩
  rw [hes]
  have hel : es.length = l.n - (s0 - l.b - 1).toNat := by rw [← hes, List.length_drop, hln]
  refine LoopG.mk [2, 3, 7, 8] (fun x : Sk => x.ok w H es m) (fun x => ⟨39, [(2, iV m), (3, .t (.c (.p 0 0))), (7, SlV x.A x.n x.c), (8, iV (s0 + x.k))], [], [l.cs.map .v]⟩) Sk.G (fun x => es.length - x.k) ⟨0, none, 0, 0, Gh.start w H⟩ rfl ⟨_, rfl⟩
    ⟨rfl, rfl, rfl, Hp.le_refl _, rfl, Nat.zero_le _, by simp only; omega, SVok.nil, .inl ⟨rfl, rfl, rfl⟩⟩ (by rw [show s0 + (((⟨0, none, 0, 0, Gh.start w H⟩ : Sk).k : Nat) : Int) = s0 from Int.add_zero s0]; rfl) rfl ?_
  rintro ⟨k, A1, n1, c1, G⟩ hx
  obtain ⟨h1, h2, h3, h4, h5, h6, h7, h8, h9⟩ := id hx
  simp only at h1 h2 h3 h4 h5 h6 h7 h8 h9 ⊢
  subst h5
  obtain ⟨i, hii⟩ : ∃ i : Int, s0 + (n1 : Int) = i := ⟨_, rfl⟩
  rw [hii]
  refine run_sound (E := E37 ⟨oW, oA, oS, oM, oBa, oBo, oBx, oBn, oE, oN, oL, oLe, oAnd, oOr, oNot, oBq, oSq, oMx, oMn, oC, oSz, oAd, oIx, oQu, oRe, oSl, oSr⟩ _) TEok hO Tm D37ok (PanicOk.lq (PanicOk.body _ _ _)) (Hp.le_refl _) 4000 _ _ ?_
  conv => arg 5; cbv
  simp only [Res.ok]
  refine EvG.pure Try.call35 (fun _ => rfl) (cL _) ?_
  rintro HB v hleB rfl
  refine ⟨.t (.c (.v (.int .i64 lw))), _, fun _ => (by first | exact rfl | exact ⟨_, rfl, rfl⟩ | exact aggT_den _ _), rfl, ?_⟩
  refine run_sound (E := E37 ⟨oW, oA, oS, oM, oBa, oBo, oBx, oBn, oE, oN, oL, oLe, oAnd, oOr, oNot, oBq, oSq, oMx, oMn, oC, oSz, oAd, oIx, oQu, oRe, oSl, oSr⟩ _) TEok hO Tm D37ok (PanicOk.lq (PanicOk.body _ _ _)) (Hp.le_refl _) 4000 _ _ ?_
  conv => arg 5; cbv
  simp only [Res.ok]
  refine ⟨fun hh => ?_, fun hh => ?_⟩
  · have hin : i ≤ lw ∧ (n1 : Int) < m := by
      obtain ⟨rfl, rfl, rfl, rfl, rfl, rfl, rfl, rfl, rfl, rfl, rfl, rfl, rfl, rfl, rfl, rfl, rfl, rfl, rfl, rfl, rfl, rfl, rfl, rfl, rfl, rfl, rfl⟩ := Ops.mk.inj hO
      simpa [Ops.std] using hh
    have hnl : n1 < es.length := by omega
    have hcB := Hp.le_trans h4 hleB
    have hA := rAt_pc l i HB (hl.mono hcB) hf ⟨by omega, by omega⟩
    rw [LV.at_some hf ⟨by omega, by omega⟩, if_pos (by omega)] at hA
    have hget : l.es[(i - l.b - 1).toNat]? = some es[n1] := by
      rw [← List.getElem?_eq_getElem hnl, ← hes, List.getElem?_drop]
      congr 1
      omega
    rw [hget] at hA
    simp only [Option.getD_some] at hA
    have htake : es.take (n1 + 1) = es.take n1 ++ [es[n1]] := by
      rw [List.take_add_one, List.getElem?_eq_getElem hnl]; rfl
    obtain ⟨e, he⟩ : ∃ e, es[n1] = e := ⟨_, rfl⟩
    rw [he] at hA htake
    have hi1 : oA .i64 i 1 = s0 + ((n1 + 1 : Nat) : Int) := by
      obtain ⟨rfl, rfl, rfl, rfl, rfl, rfl, rfl, rfl, rfl, rfl, rfl, rfl, rfl, rfl, rfl, rfl, rfl, rfl, rfl, rfl, rfl, rfl, rfl, rfl, rfl, rfl, rfl⟩ := Ops.mk.inj hO
      rw [show s0 + ((n1 + 1 : Nat) : Int) = i + 1 by omega]
      exact w64 (by omega) (by omega)
    refine EvG.pure Try.call34 (fun _ => rfl) (hA) ?_
    rintro HC v hleC rfl
    refine ⟨.tup [aggT e.cs, .c (.v (.bool true))], _, fun _ => (by first | exact rfl | exact ⟨_, rfl, rfl⟩ | exact aggT_den _ _), rfl, ?_⟩
    have hcC : Hp.le G.H HC := Hp.le_trans hleB hleC
    refine run_sound (E := E37 ⟨oW, oA, oS, oM, oBa, oBo, oBx, oBn, oE, oN, oL, oLe, oAnd, oOr, oNot, oBq, oSq, oMx, oMn, oC, oSz, oAd, oIx, oQu, oRe, oSl, oSr⟩ _) TEok hO Tm D37ok (PanicOk.lq (PanicOk.body _ _ _)) (Hp.le_refl _) 4000 _ _ ?_
    conv => arg 5; cbv
    simp only [Res.ok]
    refine fun hit => ⟨flatE [e], rfl, fun b2 hb2 => ⟨_, rfl, ?_⟩⟩
    have hle2 : Hp.le HC (HC.add b2 0 (flatE [e])) := Hp.le_add fun o _ => hb2 o
    have hsv1 : SVok (HC.add b2 0 (flatE [e])) (some ⟨b2, 0, none⟩) 1 1 [e] := SVok.fresh rfl (Nat.le_refl _)
    have hle12 := Hp.le_trans hcC hle2
    refine run_sound (E := E37 ⟨oW, oA, oS, oM, oBa, oBo, oBx, oBn, oE, oN, oL, oLe, oAnd, oOr, oNot, oBq, oSq, oMx, oMn, oC, oSz, oAd, oIx, oQu, oRe, oSl, oSr⟩ _) TEok hO Tm D37ok (PanicOk.lq (PanicOk.body _ _ _)) (Hp.le_refl _) 4000 _ _ ?_
    conv => arg 5; cbv
    simp only [Res.ok]
    refine fun hit => ⟨flatE (es.take n1), flatE [e], (h8.mono hle12).rw, hsv1.rw, flatE_one, h8.2.1, by omega, h9.nc, h9.room, fun A' c' G' hn' hle' hrw hc' => ⟨_, rfl, ?_⟩⟩
    have hx' : Sk.ok ⟨n1 + 1, A', n1 + 1, c', G'⟩ w H es m := ⟨hn'.same.1.trans h1, hn'.same.2.1.trans h2, hn'.same.2.2.trans h3, Hp.le_trans h4 (Hp.le_trans hle12 hle'), rfl, by show n1 + 1 ≤ es.length; omega, by simp only; omega, by
      show SVok G'.H A' (n1 + 1) c' (es.take (n1 + 1))
      rw [htake]
      exact SVok.of (by rw [List.length_append, ← h8.1]; rfl) hc' (by rw [flatE_append]; exact hrw), hn'.own h9⟩
    obtain ⟨nn, hnn⟩ : ∃ nn, n1 + 1 = nn := ⟨_, rfl⟩
    rw [hnn] at hx' hi1 ⊢
    refine run_sound (E := E37 ⟨oW, oA, oS, oM, oBa, oBo, oBx, oBn, oE, oN, oL, oLe, oAnd, oOr, oNot, oBq, oSq, oMx, oMn, oC, oSz, oAd, oIx, oQu, oRe, oSl, oSr⟩ _) TEok hO Tm D37ok (PanicOk.lq (PanicOk.body _ _ _)) (Hp.le_refl _) 4000 _ _ ?_
    conv => arg 5; cbv
    simp only [Res.ok]
    rw [hi1]
    exact FinG.roundB [2, 3, 7, 8] 1 ⟨nn, A', nn, c', G'⟩ hx' (by show es.length - nn < es.length - n1; omega) rfl rfl rfl rfl
  · have hout : i ≤ lw → m ≤ n1 := by
      obtain ⟨rfl, rfl, rfl, rfl, rfl, rfl, rfl, rfl, rfl, rfl, rfl, rfl, rfl, rfl, rfl, rfl, rfl, rfl, rfl, rfl, rfl, rfl, rfl, rfl, rfl, rfl, rfl⟩ := Ops.mk.inj hO
      simpa [Ops.std] using hh
    refine FinG.leave rfl rfl ?_
    refine run_sound (E := E37 ⟨oW, oA, oS, oM, oBa, oBo, oBx, oBn, oE, oN, oL, oLe, oAnd, oOr, oNot, oBq, oSq, oMx, oMn, oC, oSz, oAd, oIx, oQu, oRe, oSl, oSr⟩ _) TEok hO Tm D37ok (PanicOk.body _ _ _) (Hp.le_refl _) 4000 _ _ ?_
    conv => arg 5; cbv
    simp only [Res.ok]
    refine RetG.pc TEok C37r h1 h2 h3 (fun _ => rfl) ⟨A1, n1, c1, rfl, ?_⟩
    have : es.take n1 = es.take m.toNat := by
      by_cases hil : i ≤ lw
      · have := hout hil
        rw [show m.toNat = n1 by omega]
      · rw [List.take_of_length_le (by omega), List.take_of_length_le (by omega)]
    rw [← this]
    exact h8.mono hleB
end Go.Sx
