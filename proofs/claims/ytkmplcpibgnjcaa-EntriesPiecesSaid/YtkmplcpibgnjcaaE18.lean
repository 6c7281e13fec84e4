/- The statement EntriesPieces, walked. -/
import Derived.Test.YtkmplcpibgnjcaaE16
import Derived.Test.YtkmplcpibgnjcaaE17
namespace Go.Sx
open Go.Proofs Go.RowKit

theorem slc_is {o : LV} {p nn : Int} (hf : o.fine) (hb : o.b = 0) (h0 : 0 ≤ p) (h1 : p ≤ o.n) (hn : 0 ≤ nn) : o.slc (p + 1) nn = (o.es.drop p.toNat).take (min nn (o.n - p)).toNat := by
  obtain ⟨g1, g2, g3⟩ := hf
  have hc : o.cut (p + 1) = p := by
    unfold LV.cut
    rw [hb, Int.sub_zero, w64 (n := p + 1) (by omega) (by omega), w64 (by omega) (by omega), if_pos (by omega)]
    omega
  unfold LV.slc
  rw [hc]
  congr 2
  omega
structure Pc where
  i : Nat
  p : Nat
  l : LV
  H : Hp
structure Pc.ok (x : Pc) (o : LV) (n1 n3 : Nat) (H : Hp) : Prop where
  le : Hp.le H x.H
  l : x.l.ok x.H
  b : x.l.b = 0
  bt : x.l.bt = 0
  n : x.l.n ≤ n1
  p : x.p ≤ o.n
  pn : x.p ≤ x.l.n
  i : x.i ≤ n3 + x.p
  same : ∀ i : Int, 0 ≤ i → i ≤ x.p → x.l.term i = o.term i
noncomputable def C7 : Code := fbody Try.f7
theorem C7b : Try.f7.body = some C7 := by kernel_rfl
theorem C7r : Try.f7.results.toList = [.tmp 6] := by kernel_rfl
def D7 : List (List Nat) := []
theorem D7ok : drOk C7 D7 = true := by kernel_rfl
noncomputable def E7 (O : Ops) (H : Hp) : Env := ⟨O, H, TE, C7, [.tmp 6], D7⟩
set_option maxHeartbeats 1000000 in
set_option maxRecDepth 100000 in
theorem PiecesLaw_pc (A1 : Option Addr) (n1 c1 : Nat) (bs1 : List UInt8) (A2 : Option Addr) (n2 c2 : Nat) (bs2 : List UInt8) (A3 : Option Addr) (n3 c3 : Nat) (bs3 : List UInt8) (H : Hp)
    (hr1 : Rw H 1 A1 n1 (bs1.map u8V)) (hr2 : Rw H 1 A2 n2 (bs2.map u8V)) (hr3 : Rw H 1 A3 n3 (bs3.map u8V)) :
    PC Try.prog 7 [.slice A1 n1 c1, .slice A2 n2 c2, .slice A3 n3 c3] H fun _ v => v = .bool true := by
  have hl1 : n1 = bs1.length := by have := hr1.1; simpa using this.symm
  have hl2 : n2 = bs2.length := by have := hr2.1; simpa using this.symm
  refine PC.enter [.c (.v (.slice A1 n1 c1)), .c (.v (.slice A2 n2 c2)), .c (.v (.slice A3 n3 c3))] Try.func7 C7b rfl 103 Try.ntmps7 (by simp) fun w hw => ?_
  refine ops_open fun oW oA oS oM oBa oBo oBx oBn oE oN oL oLe oAnd oOr oNot oBq oSq oMx oMn oC oSz oAd oIx oQu oRe oSl oSr hO => ?_
  have hnt : oNot true = false := by
    obtain ⟨rfl, rfl, rfl, rfl, rfl, rfl, rfl, rfl, rfl, rfl, rfl, rfl, rfl, rfl, rfl, rfl, rfl, rfl, rfl, rfl, rfl, rfl, rfl, rfl, rfl, rfl, rfl⟩ := Ops.mk.inj hO
    rfl
  have hnf : oNot false = true := by
    obtain ⟨rfl, rfl, rfl, rfl, rfl, rfl, rfl, rfl, rfl, rfl, rfl, rfl, rfl, rfl, rfl, rfl, rfl, rfl, rfl, rfl, rfl, rfl, rfl, rfl, rfl, rfl, rfl⟩ := Ops.mk.inj hO
    rfl
  refine run_sound (E := E7 ⟨oW, oA, oS, oM, oBa, oBo, oBx, oBn, oE, oN, oL, oLe, oAnd, oOr, oNot, oBq, oSq, oMx, oMn, oC, oSz, oAd, oIx, oQu, oRe, oSl, oSr⟩ _) TEok hO Tm D7ok (PanicOk.body _ _ _) (Hp.le_refl _) 4000 _ _ ?_
  conv => arg 5; cbv
  simp only [Res.ok]
  refine EvG.pure Try.call12 (fun _ => rfl) (begun_pc _) ?_
  rintro H1 v hle1 rfl
  refine ⟨.kb true, _, fun _ => (by first | exact rfl | exact ⟨_, rfl, rfl⟩ | exact aggT_den _ _), rfl, ?_⟩
  refine run_sound (E := E7 ⟨oW, oA, oS, oM, oBa, oBo, oBx, oBn, oE, oN, oL, oLe, oAnd, oOr, oNot, oBq, oSq, oMx, oMn, oC, oSz, oAd, oIx, oQu, oRe, oSl, oSr⟩ _) TEok hO Tm D7ok (PanicOk.body _ _ _) (Hp.le_refl _) 4000 _ _ ?_
  conv => arg 5; cbv
  simp only [Res.ok]
  refine ⟨fun hh => (by rw [hnt] at hh; cases hh), fun _ => ⟨fun hh => ?_, fun hh => ?_⟩⟩
  · exact RetG.pc TEok C7r rfl rfl rfl (fun _ => rfl) rfl
  have hn : n1 ≤ 40 ∧ n2 ≤ 40 ∧ n3 ≤ 50 := by
    obtain ⟨rfl, rfl, rfl, rfl, rfl, rfl, rfl, rfl, rfl, rfl, rfl, rfl, rfl, rfl, rfl, rfl, rfl, rfl, rfl, rfl, rfl, rfl, rfl, rfl, rfl, rfl, rfl⟩ := Ops.mk.inj hO
    simp [Ops.std] at hh
    omega
  obtain ⟨hn1, hn2, hn3⟩ := hn
  clear hh
  refine EvG.pure Try.call13 (fun _ => rfl) (made0 hr1 (by omega) _ hle1) ?_
  rintro H2 v hle2 ⟨l0, rfl, hl, hlb, hlbt, -, hle⟩
  refine ⟨.t (aggT l0.cs), _, fun _ => (by first | exact rfl | exact ⟨_, rfl, rfl⟩ | exact aggT_den _ _), rfl, ?_⟩
  refine run_sound (E := E7 ⟨oW, oA, oS, oM, oBa, oBo, oBx, oBn, oE, oN, oL, oLe, oAnd, oOr, oNot, oBq, oSq, oMx, oMn, oC, oSz, oAd, oIx, oQu, oRe, oSl, oSr⟩ _) TEok hO Tm D7ok (PanicOk.body _ _ _) (Hp.le_refl _) 4000 _ _ ?_
  conv => arg 5; cbv
  simp only [Res.ok]
  refine EvG.pure Try.call13 (fun _ => rfl) (made0 hr2 (by omega) _ (Hp.le_trans hle1 hle2)) ?_
  rintro H3 v hle3 ⟨o, rfl, ho, hob, hobt, -, hoe⟩
  refine ⟨.t (aggT o.cs), _, fun _ => (by first | exact rfl | exact ⟨_, rfl, rfl⟩ | exact aggT_den _ _), rfl, ?_⟩
  replace hl := hl.mono hle3
  have hln : l0.n = n1 := by rw [hl.1, hle, madeE_len, hl1]
  have hon : o.n = n2 := by rw [ho.1, hoe, madeE_len, hl2]
  have hof : o.fine := ⟨by omega, by omega, by omega⟩
  have hH3 : Hp.le H H3 := Hp.le_trans hle1 (Hp.le_trans hle2 hle3)
  refine run_sound (E := E7 ⟨oW, oA, oS, oM, oBa, oBo, oBx, oBn, oE, oN, oL, oLe, oAnd, oOr, oNot, oBq, oSq, oMx, oMn, oC, oSz, oAd, oIx, oQu, oRe, oSl, oSr⟩ _) TEok hO Tm D7ok (PanicOk.body _ _ _) (Hp.le_refl _) 4000 _ _ ?_
  conv => arg 5; cbv
  simp only [Res.ok]
  refine LoopG.mk [1, 2, 7, 8, 9, 10] (fun y : Pc => y.ok o 40 n3 H3)
    (fun y => ⟨103, [(1, SlV A2 n2 c2), (2, SlV A3 n3 c3), (7, .t (.c (.p 0 0))), (8, .t (.c (.p 1 0))), (9, iV y.p), (10, iV y.i)], [], [y.l.cs.map .v, o.cs.map .v]⟩)
    (fun y => (Gh.start w H).seth y.H) (fun y => (n3 - y.i) + (n2 - y.p)) ⟨0, 0, l0, H3⟩ rfl ⟨_, rfl⟩
    ⟨Hp.le_refl _, hl, hlb, hlbt, by simp only; omega, Nat.zero_le _, Nat.zero_le _, Nat.zero_le _, fun i h0 h1 => by
      have : i = 0 := by simp only at h1; omega
      subst this
      unfold LV.term
      simp only
      rw [if_pos hlb.symm, if_pos hob.symm, hlbt, hobt]⟩ rfl rfl ?_
  rintro ⟨i, p, l, HA⟩ hx
  obtain ⟨x1, x2, x3, x4, x5, x6, x7, x8, x9⟩ := id hx
  simp only at x1 x2 x3 x4 x5 x6 x7 x8 x9 ⊢
  obtain ⟨ii, hii⟩ : ∃ ii : Int, (i : Int) = ii := ⟨_, rfl⟩
  obtain ⟨pp, hpp⟩ : ∃ pp : Int, (p : Int) = pp := ⟨_, rfl⟩
  rw [hii, hpp]
  rw [hpp] at x9
  have hlf : l.fine := ⟨by omega, by omega, by omega⟩
  have hi1 : oA .i64 ii 1 = ((i + 1 : Nat) : Int) := by
    obtain ⟨rfl, rfl, rfl, rfl, rfl, rfl, rfl, rfl, rfl, rfl, rfl, rfl, rfl, rfl, rfl, rfl, rfl, rfl, rfl, rfl, rfl, rfl, rfl, rfl, rfl, rfl, rfl⟩ := Ops.mk.inj hO
    rw [show ((i + 1 : Nat) : Int) = ii + 1 by omega]
    exact w64 (by omega) (by omega)
  have hp1 : oA .i64 pp 1 = pp + 1 := by
    obtain ⟨rfl, rfl, rfl, rfl, rfl, rfl, rfl, rfl, rfl, rfl, rfl, rfl, rfl, rfl, rfl, rfl, rfl, rfl, rfl, rfl, rfl, rfl, rfl, rfl, rfl, rfl, rfl⟩ := Ops.mk.inj hO
    exact w64 (by omega) (by omega)
  have hcn2 : oC n2 = n2 := by
    obtain ⟨rfl, rfl, rfl, rfl, rfl, rfl, rfl, rfl, rfl, rfl, rfl, rfl, rfl, rfl, rfl, rfl, rfl, rfl, rfl, rfl, rfl, rfl, rfl, rfl, rfl, rfl, rfl⟩ := Ops.mk.inj hO
    rfl
  refine run_sound (E := E7 ⟨oW, oA, oS, oM, oBa, oBo, oBx, oBn, oE, oN, oL, oLe, oAnd, oOr, oNot, oBq, oSq, oMx, oMn, oC, oSz, oAd, oIx, oQu, oRe, oSl, oSr⟩ _) TEok hO Tm D7ok (PanicOk.lq (PanicOk.body _ _ _)) (Hp.le_refl _) 4000 _ _ ?_
  conv => arg 5; cbv
  simp only [Res.ok]
  refine ⟨fun hh => ⟨fun hh2 => ?_, fun hh2 => ⟨fun hh3 => ?_, fun _ => ?_⟩⟩, fun hh => ?_⟩
  · have hlt : ii < n3 := by
      obtain ⟨rfl, rfl, rfl, rfl, rfl, rfl, rfl, rfl, rfl, rfl, rfl, rfl, rfl, rfl, rfl, rfl, rfl, rfl, rfl, rfl, rfl, rfl, rfl, rfl, rfl, rfl, rfl⟩ := Ops.mk.inj hO
      simpa [Ops.std] using hh2
    obtain ⟨b, ad, hbk, hA, hgt⟩ := byte_get (hr3.mono (Hp.le_trans hH3 x1)) (k := ii) (by omega) hlt
    obtain ⟨bi, hbi⟩ : ∃ bi : Int, (b.toNat : Int) = bi := ⟨_, rfl⟩
    refine ⟨by omega, hlt, ad, hA, fun pa hpa => ⟨_, rfl, ?_⟩⟩
    have hp : hat HA pa 0 = some (Value.int .u8 bi) := by rw [← hbi]; exact hgt pa hpa
    refine run_sound (E := E7 ⟨oW, oA, oS, oM, oBa, oBo, oBx, oBn, oE, oN, oL, oLe, oAnd, oOr, oNot, oBq, oSq, oMx, oMn, oC, oSz, oAd, oIx, oQu, oRe, oSl, oSr⟩ _) TEok hO Tm D7ok (PanicOk.lq (PanicOk.body _ _ _)) (Hp.le_refl _) 4000 _ _ ?_
    conv => arg 5; cbv
    simp only [Res.ok]
    refine ⟨[.int .u8 bi], rfl, fun j v hv => ?_, .inr ⟨rfl, _, _, rfl, rfl, ?_⟩⟩
    · cases j with
      | zero => simp at hv; subst hv; exact hp
      | succ j => simp at hv
    refine run_sound (E := E7 ⟨oW, oA, oS, oM, oBa, oBo, oBx, oBn, oE, oN, oL, oLe, oAnd, oOr, oNot, oBq, oSq, oMx, oMn, oC, oSz, oAd, oIx, oQu, oRe, oSl, oSr⟩ _) TEok hO Tm D7ok (PanicOk.lq (PanicOk.body _ _ _)) (Hp.le_refl _) 4000 _ _ ?_
    conv => arg 5; cbv
    simp only [Res.ok]
    obtain ⟨nn, hnn, hnn0, hnn5⟩ : ∃ nn, oW .i64 (oRe .u8 bi 6) = nn ∧ 0 ≤ nn ∧ nn ≤ 5 := by
      have hb1 : bi.tmod 6 = ((b.toNat % 6 : Nat) : Int) := by rw [← hbi]; rfl
      refine ⟨_, rfl, ?_⟩
      obtain ⟨rfl, rfl, rfl, rfl, rfl, rfl, rfl, rfl, rfl, rfl, rfl, rfl, rfl, rfl, rfl, rfl, rfl, rfl, rfl, rfl, rfl, rfl, rfl, rfl, rfl, rfl, rfl⟩ := Ops.mk.inj hO
      show 0 ≤ IntKind.i64.wrap (bi.tmod 6) ∧ IntKind.i64.wrap (bi.tmod 6) ≤ 5
      rw [hb1, w64 (by omega) (by omega)]
      omega
    rw [hnn]
    have hpr : i < n3 ∨ (1 ≤ nn ∧ p < n2) := .inl (by omega)
    have tO := Term_pc o pp HA (ho.mono x1)
    have tis := LV.term_is (i := pp) hof ⟨by omega, by omega⟩
    have tl := x9 pp (by omega) (by omega)
    obtain ⟨⟨t, is⟩, ht⟩ : ∃ y, o.term pp = y := ⟨_, rfl⟩
    rw [ht] at tO tis tl
    have his : is = true := by simp only at tis; rw [tis]; simp; omega
    subst his
    refine EvG.pure Try.call17 (fun _ => rfl) (tO) ?_
    rintro HB v hleB rfl
    refine ⟨.tup [.c (.v (.int .i64 t)), .c (.v (.bool true))], _, fun _ => (by first | exact rfl | exact ⟨_, rfl, rfl⟩ | exact aggT_den _ _), rfl, ?_⟩
    refine run_sound (E := E7 ⟨oW, oA, oS, oM, oBa, oBo, oBx, oBn, oE, oN, oL, oLe, oAnd, oOr, oNot, oBq, oSq, oMx, oMn, oC, oSz, oAd, oIx, oQu, oRe, oSl, oSr⟩ _) TEok hO Tm D7ok (PanicOk.lq (PanicOk.body _ _ _)) (Hp.le_refl _) 4000 _ _ ?_
    conv => arg 5; cbv
    simp only [Res.ok]
    rw [hp1]
    have hsl := slc_is hof hob (show 0 ≤ pp by omega) (by omega) hnn0
    have cS := Slice_pc o (pp + 1) nn HB ((ho.mono x1).mono hleB) (by omega)
    rw [hsl] at cS
    obtain ⟨es, hes⟩ : ∃ es, (o.es.drop pp.toNat).take (min nn (o.n - pp)).toNat = es := ⟨_, rfl⟩
    rw [hes] at cS
    have hone : o.n = o.es.length := ho.1
    have hesl : (es.length : Int) = min nn (o.n - pp) := by rw [← hes, List.length_take, List.length_drop]; omega
    have hesg : ∀ (j : Nat) (e : Entry), es[j]? = some e → o.term (pp + 1 + (j : Int)) = (e.term, true) := fun j e he => by
      have hj := (List.getElem?_eq_some_iff.1 he).1
      rw [LV.term_eq hof ⟨by omega, by omega⟩, if_neg (by omega), if_pos (by omega)]
      have : o.es[(pp + 1 + (j : Int) - o.b - 1).toNat]? = some e := by
        rw [← he, ← hes, List.getElem?_take, if_pos (by omega), List.getElem?_drop]
        congr 1
        omega
      rw [this]; rfl
    clear hes hsl
    obtain ⟨p1, hp1'⟩ : ∃ p1, pp + 1 = p1 := ⟨_, rfl⟩
    rw [hp1'] at cS ⊢
    obtain ⟨ne, hne⟩ : ∃ ne, es.length = ne := ⟨_, rfl⟩
    rw [hne] at cS hesl
    refine EvG.pure Try.call29 (fun _ => rfl) (cS) ?_
    rintro HC v hleC ⟨A', c', rfl, hsv⟩
    refine ⟨.t (.c (.v (.slice A' ne c'))), _, fun _ => (by first | exact rfl | exact ⟨_, rfl, rfl⟩ | exact aggT_den _ _), rfl, ?_⟩
    have hcC := Hp.le_trans hleB hleC
    have cM := Merge_good l pp t A' ne c' es HC (x2.mono hcC) hlf hsv ⟨by omega, by omega⟩ (by omega) (not_bad (by omega) (by omega) (by omega) tl)
    obtain ⟨last, hlast⟩ : ∃ x : Int, pp + (es.length : Int) = x := ⟨_, rfl⟩
    rw [hlast] at cM
    have hpa : oA .i64 pp (oC ne) = last := by
      rw [← hlast, hne]
      obtain ⟨rfl, rfl, rfl, rfl, rfl, rfl, rfl, rfl, rfl, rfl, rfl, rfl, rfl, rfl, rfl, rfl, rfl, rfl, rfl, rfl, rfl, rfl, rfl, rfl, rfl, rfl, rfl⟩ := Ops.mk.inj hO
      show IntKind.i64.wrap (pp + (ne : Int)) = pp + (ne : Int)
      exact w64 (by omega) (by omega)
    refine run_sound (E := E7 ⟨oW, oA, oS, oM, oBa, oBo, oBx, oBn, oE, oN, oL, oLe, oAnd, oOr, oNot, oBq, oSq, oMx, oMn, oC, oSz, oAd, oIx, oQu, oRe, oSl, oSr⟩ _) TEok hO Tm D7ok (PanicOk.lq (PanicOk.body _ _ _)) (Hp.le_refl _) 4000 _ _ ?_
    conv => arg 5; cbv
    simp only [Res.ok]
    refine EvG.pure Try.call18 (fun _ => rfl) (cM) ?_
    rintro HD v hleD ⟨m, rfl, hm, hms⟩
    refine ⟨.tup [aggT m.cs, .c (.v (.int .i64 last)), .c (.v (.bool true))], _, fun _ => (by first | exact rfl | exact ⟨_, rfl, rfl⟩ | exact aggT_den _ _), rfl, ?_⟩
    refine run_sound (E := E7 ⟨oW, oA, oS, oM, oBa, oBo, oBx, oBn, oE, oN, oL, oLe, oAnd, oOr, oNot, oBq, oSq, oMx, oMn, oC, oSz, oAd, oIx, oQu, oRe, oSl, oSr⟩ _) TEok hO Tm D7ok (PanicOk.lq (PanicOk.body _ _ _)) (Hp.le_refl _) 4000 _ _ ?_
    conv => arg 5; cbv
    simp only [Res.ok]
    rw [hpa]
    refine ⟨fun hh9 => ?_, fun _ => ?_⟩
    · exfalso
      revert hh9
      obtain ⟨rfl, rfl, rfl, rfl, rfl, rfl, rfl, rfl, rfl, rfl, rfl, rfl, rfl, rfl, rfl, rfl, rfl, rfl, rfl, rfl, rfl, rfl, rfl, rfl, rfl, rfl, rfl⟩ := Ops.mk.inj hO
      simp [Ops.std]
    rw [hi1]
    have hmb := hms.1
    have hmn : m.n ≤ 40 := by
      rw [hm.1, hms.2.2.2, mergeEs_hi (by omega)]
      split
      · rw [← x2.1]; omega
      · rename_i k hk
        rw [List.length_append, List.length_take, List.length_drop, ← x2.1]
        obtain ⟨j, e1, e2, e3, e4⟩ := mism_some es 0 k hk
        omega
    have hmf : m.fine := ⟨by omega, by omega, by omega⟩
    have hM := merged hlf x2.1 hm.1 hmf (by omega) (by omega) (by omega) hms
    have hml := hM.len
    refine FinG.roundB [1, 2, 7, 8, 9, 10] 2 ⟨i + 1, p + ne, m, HD⟩ ⟨Hp.le_trans x1 (Hp.le_trans hcC hleD), hm, by rw [hmb]; exact x3, by rw [hms.2.1]; exact x4, hmn, by simp only; omega, by simp only; omega, by simp only; omega, fun i' h0 h1 => ?_⟩ (by simp only; omega) rfl rfl (by rw [show (((p + ne : Nat) : Int)) = last by omega]; rfl) rfl
    simp only at h1
    by_cases hip : i' ≤ pp
    · rw [hM.low i' ⟨by omega, by omega⟩ hip]; exact x9 i' h0 hip
    · have hj : (i' - pp - 1).toNat < es.length := by omega
      have h2 := hM.up _ _ (List.getElem?_eq_getElem hj)
      have h3 := hesg _ _ (List.getElem?_eq_getElem hj)
      unfold agr at h2
      rw [show pp + 1 + (((i' - pp - 1).toNat : Nat) : Int) = i' by omega] at h2 h3
      rw [h2, h3]
  · exfalso
    have hge : ¬ ii < n3 := by
      obtain ⟨rfl, rfl, rfl, rfl, rfl, rfl, rfl, rfl, rfl, rfl, rfl, rfl, rfl, rfl, rfl, rfl, rfl, rfl, rfl, rfl, rfl, rfl, rfl, rfl, rfl, rfl, rfl⟩ := Ops.mk.inj hO
      simpa [Ops.std] using hh2
    have : ¬ 200 < ii := by omega
    revert hh3
    obtain ⟨rfl, rfl, rfl, rfl, rfl, rfl, rfl, rfl, rfl, rfl, rfl, rfl, rfl, rfl, rfl, rfl, rfl, rfl, rfl, rfl, rfl, rfl, rfl, rfl, rfl, rfl, rfl⟩ := Ops.mk.inj hO
    simpa [Ops.std] using this
  · have hge : ¬ ii < n3 := by
      obtain ⟨rfl, rfl, rfl, rfl, rfl, rfl, rfl, rfl, rfl, rfl, rfl, rfl, rfl, rfl, rfl, rfl, rfl, rfl, rfl, rfl, rfl, rfl, rfl, rfl, rfl, rfl, rfl⟩ := Ops.mk.inj hO
      simpa [Ops.std] using hh2
    have hpn : pp < n2 := by
      have hh : ¬ ii < n3 → pp < n2 := by
        obtain ⟨rfl, rfl, rfl, rfl, rfl, rfl, rfl, rfl, rfl, rfl, rfl, rfl, rfl, rfl, rfl, rfl, rfl, rfl, rfl, rfl, rfl, rfl, rfl, rfl, rfl, rfl, rfl⟩ := Ops.mk.inj hO
        simpa [Ops.std, Classical.or_iff_not_imp_left] using hh
      exact hh hge
    obtain ⟨nn, hnn, hnn0, hnn5⟩ : ∃ nn : Int, 3 = nn ∧ 0 ≤ nn ∧ nn ≤ 5 := ⟨3, rfl, by decide, by decide⟩
    rw [hnn]
    have hpr : i < n3 ∨ (1 ≤ nn ∧ p < n2) := .inr (by omega)
    have tO := Term_pc o pp HA (ho.mono x1)
    have tis := LV.term_is (i := pp) hof ⟨by omega, by omega⟩
    have tl := x9 pp (by omega) (by omega)
    obtain ⟨⟨t, is⟩, ht⟩ : ∃ y, o.term pp = y := ⟨_, rfl⟩
    rw [ht] at tO tis tl
    have his : is = true := by simp only at tis; rw [tis]; simp; omega
    subst his
    refine EvG.pure Try.call17 (fun _ => rfl) (tO) ?_
    rintro HB v hleB rfl
    refine ⟨.tup [.c (.v (.int .i64 t)), .c (.v (.bool true))], _, fun _ => (by first | exact rfl | exact ⟨_, rfl, rfl⟩ | exact aggT_den _ _), rfl, ?_⟩
    refine run_sound (E := E7 ⟨oW, oA, oS, oM, oBa, oBo, oBx, oBn, oE, oN, oL, oLe, oAnd, oOr, oNot, oBq, oSq, oMx, oMn, oC, oSz, oAd, oIx, oQu, oRe, oSl, oSr⟩ _) TEok hO Tm D7ok (PanicOk.lq (PanicOk.body _ _ _)) (Hp.le_refl _) 4000 _ _ ?_
    conv => arg 5; cbv
    simp only [Res.ok]
    rw [hp1]
    have hsl := slc_is hof hob (show 0 ≤ pp by omega) (by omega) hnn0
    have cS := Slice_pc o (pp + 1) nn HB ((ho.mono x1).mono hleB) (by omega)
    rw [hsl] at cS
    obtain ⟨es, hes⟩ : ∃ es, (o.es.drop pp.toNat).take (min nn (o.n - pp)).toNat = es := ⟨_, rfl⟩
    rw [hes] at cS
    have hone : o.n = o.es.length := ho.1
    have hesl : (es.length : Int) = min nn (o.n - pp) := by rw [← hes, List.length_take, List.length_drop]; omega
    have hesg : ∀ (j : Nat) (e : Entry), es[j]? = some e → o.term (pp + 1 + (j : Int)) = (e.term, true) := fun j e he => by
      have hj := (List.getElem?_eq_some_iff.1 he).1
      rw [LV.term_eq hof ⟨by omega, by omega⟩, if_neg (by omega), if_pos (by omega)]
      have : o.es[(pp + 1 + (j : Int) - o.b - 1).toNat]? = some e := by
        rw [← he, ← hes, List.getElem?_take, if_pos (by omega), List.getElem?_drop]
        congr 1
        omega
      rw [this]; rfl
    clear hes hsl
    obtain ⟨p1, hp1'⟩ : ∃ p1, pp + 1 = p1 := ⟨_, rfl⟩
    rw [hp1'] at cS ⊢
    obtain ⟨ne, hne⟩ : ∃ ne, es.length = ne := ⟨_, rfl⟩
    rw [hne] at cS hesl
    refine EvG.pure Try.call29 (fun _ => rfl) (cS) ?_
    rintro HC v hleC ⟨A', c', rfl, hsv⟩
    refine ⟨.t (.c (.v (.slice A' ne c'))), _, fun _ => (by first | exact rfl | exact ⟨_, rfl, rfl⟩ | exact aggT_den _ _), rfl, ?_⟩
    have hcC := Hp.le_trans hleB hleC
    have cM := Merge_good l pp t A' ne c' es HC (x2.mono hcC) hlf hsv ⟨by omega, by omega⟩ (by omega) (not_bad (by omega) (by omega) (by omega) tl)
    obtain ⟨last, hlast⟩ : ∃ x : Int, pp + (es.length : Int) = x := ⟨_, rfl⟩
    rw [hlast] at cM
    have hpa : oA .i64 pp (oC ne) = last := by
      rw [← hlast, hne]
      obtain ⟨rfl, rfl, rfl, rfl, rfl, rfl, rfl, rfl, rfl, rfl, rfl, rfl, rfl, rfl, rfl, rfl, rfl, rfl, rfl, rfl, rfl, rfl, rfl, rfl, rfl, rfl, rfl⟩ := Ops.mk.inj hO
      show IntKind.i64.wrap (pp + (ne : Int)) = pp + (ne : Int)
      exact w64 (by omega) (by omega)
    refine run_sound (E := E7 ⟨oW, oA, oS, oM, oBa, oBo, oBx, oBn, oE, oN, oL, oLe, oAnd, oOr, oNot, oBq, oSq, oMx, oMn, oC, oSz, oAd, oIx, oQu, oRe, oSl, oSr⟩ _) TEok hO Tm D7ok (PanicOk.lq (PanicOk.body _ _ _)) (Hp.le_refl _) 4000 _ _ ?_
    conv => arg 5; cbv
    simp only [Res.ok]
    refine EvG.pure Try.call18 (fun _ => rfl) (cM) ?_
    rintro HD v hleD ⟨m, rfl, hm, hms⟩
    refine ⟨.tup [aggT m.cs, .c (.v (.int .i64 last)), .c (.v (.bool true))], _, fun _ => (by first | exact rfl | exact ⟨_, rfl, rfl⟩ | exact aggT_den _ _), rfl, ?_⟩
    refine run_sound (E := E7 ⟨oW, oA, oS, oM, oBa, oBo, oBx, oBn, oE, oN, oL, oLe, oAnd, oOr, oNot, oBq, oSq, oMx, oMn, oC, oSz, oAd, oIx, oQu, oRe, oSl, oSr⟩ _) TEok hO Tm D7ok (PanicOk.lq (PanicOk.body _ _ _)) (Hp.le_refl _) 4000 _ _ ?_
    conv => arg 5; cbv
    simp only [Res.ok]
    rw [hpa]
    refine ⟨fun hh9 => ?_, fun _ => ?_⟩
    · exfalso
      revert hh9
      obtain ⟨rfl, rfl, rfl, rfl, rfl, rfl, rfl, rfl, rfl, rfl, rfl, rfl, rfl, rfl, rfl, rfl, rfl, rfl, rfl, rfl, rfl, rfl, rfl, rfl, rfl, rfl, rfl⟩ := Ops.mk.inj hO
      simp [Ops.std]
    rw [hi1]
    have hmb := hms.1
    have hmn : m.n ≤ 40 := by
      rw [hm.1, hms.2.2.2, mergeEs_hi (by omega)]
      split
      · rw [← x2.1]; omega
      · rename_i k hk
        rw [List.length_append, List.length_take, List.length_drop, ← x2.1]
        obtain ⟨j, e1, e2, e3, e4⟩ := mism_some es 0 k hk
        omega
    have hmf : m.fine := ⟨by omega, by omega, by omega⟩
    have hM := merged hlf x2.1 hm.1 hmf (by omega) (by omega) (by omega) hms
    have hml := hM.len
    refine FinG.roundB [1, 2, 7, 8, 9, 10] 2 ⟨i + 1, p + ne, m, HD⟩ ⟨Hp.le_trans x1 (Hp.le_trans hcC hleD), hm, by rw [hmb]; exact x3, by rw [hms.2.1]; exact x4, hmn, by simp only; omega, by simp only; omega, by simp only; omega, fun i' h0 h1 => ?_⟩ (by simp only; omega) rfl rfl (by rw [show (((p + ne : Nat) : Int)) = last by omega]; rfl) rfl
    simp only at h1
    by_cases hip : i' ≤ pp
    · rw [hM.low i' ⟨by omega, by omega⟩ hip]; exact x9 i' h0 hip
    · have hj : (i' - pp - 1).toNat < es.length := by omega
      have h2 := hM.up _ _ (List.getElem?_eq_getElem hj)
      have h3 := hesg _ _ (List.getElem?_eq_getElem hj)
      unfold agr at h2
      rw [show pp + 1 + (((i' - pp - 1).toNat : Nat) : Int) = i' by omega] at h2 h3
      rw [h2, h3]
  · refine FinG.leave rfl rfl ?_
    have hout : ¬ ii < n3 ∧ ¬ pp < n2 := by
      obtain ⟨rfl, rfl, rfl, rfl, rfl, rfl, rfl, rfl, rfl, rfl, rfl, rfl, rfl, rfl, rfl, rfl, rfl, rfl, rfl, rfl, rfl, rfl, rfl, rfl, rfl, rfl, rfl⟩ := Ops.mk.inj hO
      simpa [Ops.std] using hh
    have cL := fun H' => Last_pc l H'
    obtain ⟨lw, hlw⟩ : ∃ x, l.lastW = x := ⟨_, rfl⟩
    rw [hlw] at cL
    rw [LV.lastW_eq hlf] at hlw
    have cA := fun (H' : Hp) (h : Hp.le HA H') => alike_pc l o H' (x2.mono h) ((ho.mono x1).mono h) hlf hof hob (fun i' h1 h2 => by
      have h3 := x9 i' (by omega) (by omega)
      have h4 := LV.term_is (i := i') hof ⟨by omega, by omega⟩
      rw [← h3] at h4
      unfold LV.term at h3 h4
      rw [if_neg (by omega), if_neg (by omega)] at h3
      rw [if_neg (by omega)] at h4
      simp only at h4
      exact ⟨by rw [h4]; simp; omega, congrArg Prod.fst h3⟩)
    refine run_sound (E := E7 ⟨oW, oA, oS, oM, oBa, oBo, oBx, oBn, oE, oN, oL, oLe, oAnd, oOr, oNot, oBq, oSq, oMx, oMn, oC, oSz, oAd, oIx, oQu, oRe, oSl, oSr⟩ _) TEok hO Tm D7ok (PanicOk.body _ _ _) (Hp.le_refl _) 4000 _ _ ?_
    conv => arg 5; cbv
    simp only [Res.ok]
    refine EvG.pure Try.call15 (fun _ => rfl) (cL _) ?_
    rintro HB v hleB rfl
    refine ⟨.t (.c (.v (.int .i64 lw))), _, fun _ => (by first | exact rfl | exact ⟨_, rfl, rfl⟩ | exact aggT_den _ _), rfl, ?_⟩
    refine run_sound (E := E7 ⟨oW, oA, oS, oM, oBa, oBo, oBx, oBn, oE, oN, oL, oLe, oAnd, oOr, oNot, oBq, oSq, oMx, oMn, oC, oSz, oAd, oIx, oQu, oRe, oSl, oSr⟩ _) TEok hO Tm D7ok (PanicOk.body _ _ _) (Hp.le_refl _) 4000 _ _ ?_
    conv => arg 5; cbv
    simp only [Res.ok]
    rw [hcn2]
    refine ⟨fun _ => ?_, fun hh4 => ?_⟩
    · refine EvG.pure Try.call31 (fun _ => rfl) (cA _ hleB) ?_
      rintro HC v hleC rfl
      refine ⟨.kb true, _, fun _ => (by first | exact rfl | exact ⟨_, rfl, rfl⟩ | exact aggT_den _ _), rfl, ?_⟩
      refine run_sound (E := E7 ⟨oW, oA, oS, oM, oBa, oBo, oBx, oBn, oE, oN, oL, oLe, oAnd, oOr, oNot, oBq, oSq, oMx, oMn, oC, oSz, oAd, oIx, oQu, oRe, oSl, oSr⟩ _) TEok hO Tm D7ok (PanicOk.body _ _ _) (Hp.le_refl _) 4000 _ _ ?_
      conv => arg 5; cbv
      simp only [Res.ok]
      exact RetG.pc TEok C7r rfl rfl rfl (fun _ => rfl) rfl
    · exfalso
      have : (n2 : Int) ≤ lw := by omega
      revert hh4
      obtain ⟨rfl, rfl, rfl, rfl, rfl, rfl, rfl, rfl, rfl, rfl, rfl, rfl, rfl, rfl, rfl, rfl, rfl, rfl, rfl, rfl, rfl, rfl, rfl, rfl, rfl, rfl, rfl⟩ := Ops.mk.inj hO
      simpa [Ops.std] using this
end Go.Sx
