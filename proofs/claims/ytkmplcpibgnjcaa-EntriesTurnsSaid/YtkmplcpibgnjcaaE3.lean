/- Contracts: rows that grow: Grow, Concat, front. -/
import Derived.Test.YtkmplcpibgnjcaaE2
namespace Go.Sx
open Go.Proofs Go.RowKit

noncomputable def C111 : Code := fbody Try.f111
theorem C111b : Try.f111.body = some C111 := by kernel_rfl
theorem C111r : Try.f111.results.toList = [.tmp 4] := by kernel_rfl
def D111 : List (List Nat) := []
theorem D111ok : drOk C111 D111 = true := by kernel_rfl
noncomputable def E111 (O : Ops) (H : Hp) : Env := ⟨O, H, TE, C111, [.tmp 4], D111⟩
def GrowR (m : Int) (_ : Hp) (Ro : List ORow) (v : Value) : Prop :=
  (m = 0 ∧ v = .slice none 0 0 ∧ Ro = []) ∨ (0 < m ∧ ∃ b c', v = .slice (some ⟨b, 0, none⟩) 0 c' ∧ m ≤ c' ∧ Ro = [⟨b, 0, c', 14, 47⟩])
theorem Grow_pc (m : Int) (H : Hp) (h0 : 0 ≤ m) (h1 : m ≤ 1048576) : PCO Try.prog 111 [.slice none 0 0, .int .i64 m] H [] (GrowR m) := by
  have hw0 : IntKind.i64.wrap m = m := by
    unfold IntKind.wrap; simp [IntKind.bits, IntKind.signed]; omega
  refine PCO.enter [.c (.v (.slice none 0 0)), .c (.v (.int .i64 m))] Try.func111 C111b rfl 27 Try.ntmps111 (by simp) fun w hw => ?_
  refine ops_open fun oW oA oS oM oBa oBo oBx oBn oE oN oL oLe oAnd oOr oNot oBq oSq oMx oMn oC oSz oAd oIx oQu oRe oSl oSr hO => ?_
  refine run_sound (E := E111 ⟨oW, oA, oS, oM, oBa, oBo, oBx, oBn, oE, oN, oL, oLe, oAnd, oOr, oNot, oBq, oSq, oMx, oMn, oC, oSz, oAd, oIx, oQu, oRe, oSl, oSr⟩ H) TEok hO Tm D111ok (PanicOk.body _ _ _) (Hp.le_refl _) 4000 _ _ ?_
  conv => arg 5; cbv
  simp only [Res.ok]
  have hc0 : oC 0 = 0 := by
    obtain ⟨rfl, rfl, rfl, rfl, rfl, rfl, rfl, rfl, rfl, rfl, rfl, rfl, rfl, rfl, rfl, rfl, rfl, rfl, rfl, rfl, rfl, rfl, rfl, rfl, rfl, rfl, rfl⟩ := Ops.mk.inj hO
    rfl
  have hm : oS .i64 m (oS .i64 (oC 0) (oC 0)) = m := by
    obtain ⟨rfl, rfl, rfl, rfl, rfl, rfl, rfl, rfl, rfl, rfl, rfl, rfl, rfl, rfl, rfl, rfl, rfl, rfl, rfl, rfl, rfl, rfl, rfl, rfl, rfl, rfl, rfl⟩ := Ops.mk.inj hO
    simpa [Ops.std, IntKind.wrap, IntKind.bits, IntKind.signed] using hw0
  rw [hm]
  refine ⟨fun h2 => ?_, fun _ => ⟨fun h2 => ?_, fun h2 => ?_⟩⟩
  · obtain ⟨rfl, rfl, rfl, rfl, rfl, rfl, rfl, rfl, rfl, rfl, rfl, rfl, rfl, rfl, rfl, rfl, rfl, rfl, rfl, rfl, rfl, rfl, rfl, rfl, rfl, rfl, rfl⟩ := Ops.mk.inj hO
    have h2 : m < 0 := by simpa [Ops.std] using h2
    omega
  · have hpos : 0 < m := by
      obtain ⟨rfl, rfl, rfl, rfl, rfl, rfl, rfl, rfl, rfl, rfl, rfl, rfl, rfl, rfl, rfl, rfl, rfl, rfl, rfl, rfl, rfl, rfl, rfl, rfl, rfl, rfl, rfl⟩ := Ops.mk.inj hO
      simpa [Ops.std] using h2
    rw [hc0]
    refine ⟨Int.le_refl _, Int.le_refl _, Int.le_refl _, fun A1 n1 c1 hA1 hn1 hc1 => ⟨_, rfl, ?_⟩⟩
    simp only [Option.getD_none, Int.toNat_zero, Nat.sub_zero, if_true, Option.getD_some] at hA1 hn1 hc1
    subst hA1 hn1 hc1
    refine run_sound (E := E111 ⟨oW, oA, oS, oM, oBa, oBo, oBx, oBn, oE, oN, oL, oLe, oAnd, oOr, oNot, oBq, oSq, oMx, oMn, oC, oSz, oAd, oIx, oQu, oRe, oSl, oSr⟩ H) TEok hO Tm D111ok (PanicOk.body _ _ _) (Hp.le_refl _) 4000 _ _ ?_
    conv => arg 5; cbv
    simp only [Res.ok]
    refine fun hit => ⟨rfl, rfl, rfl, hpos, h1, fun b c' hb hc' => ⟨_, rfl, ?_⟩⟩
    obtain ⟨k, hk⟩ : ∃ k, m.toNat = k := ⟨_, rfl⟩
    rw [hk]
    refine run_sound (E := E111 ⟨oW, oA, oS, oM, oBa, oBo, oBx, oBn, oE, oN, oL, oLe, oAnd, oOr, oNot, oBq, oSq, oMx, oMn, oC, oSz, oAd, oIx, oQu, oRe, oSl, oSr⟩ H) TEok hO Tm D111ok (PanicOk.body _ _ _) (Hp.le_refl _) 4000 _ _ ?_
    conv => arg 5; cbv
    simp only [Res.ok]
    rw [hc0]
    refine ⟨Int.le_refl _, Int.le_refl _, Int.natCast_nonneg _, fun A1 n1 c1 hA1 hn1 hc1 => ⟨_, rfl, ?_⟩⟩
    simp only [Option.getD_none, Int.toNat_zero, Nat.sub_zero, Option.getD_some, Nat.zero_mul] at hA1 hn1 hc1
    have hA1 : A1 = some ⟨b, 0, none⟩ := by rw [hA1]; split <;> rfl
    subst hA1 hn1 hc1
    refine run_sound (E := E111 ⟨oW, oA, oS, oM, oBa, oBo, oBx, oBn, oE, oN, oL, oLe, oAnd, oOr, oNot, oBq, oSq, oMx, oMn, oC, oSz, oAd, oIx, oQu, oRe, oSl, oSr⟩ H) TEok hO Tm D111ok (PanicOk.body _ _ _) (Hp.le_refl _) 4000 _ _ ?_
    conv => arg 5; cbv
    simp only [Res.ok]
    refine RetG.pco TEok C111r rfl rfl rfl (List.Sublist.refl _) (fun _ => rfl) (.inr ⟨hpos, b, c1, rfl, by omega, rfl⟩)
  · refine RetG.pco TEok C111r rfl rfl rfl (List.Sublist.refl _) (fun _ => rfl) (.inl ⟨?_, rfl, rfl⟩)
    obtain ⟨rfl, rfl, rfl, rfl, rfl, rfl, rfl, rfl, rfl, rfl, rfl, rfl, rfl, rfl, rfl, rfl, rfl, rfl, rfl, rfl, rfl, rfl, rfl, rfl, rfl, rfl, rfl⟩ := Ops.mk.inj hO
    have h2 : ¬ 0 < m := by simpa [Ops.std] using h2
    omega

/-- what a loop that appends entries carries -/
structure Acc where
  i : Int
  m : Nat
  A : Option Addr
  n : Nat
  c : Nat
  es : List Entry
  G : Gh
structure Acc.ok (x : Acc) (w : World) (H : Hp) : Prop where
  w0 : x.G.w0 = w
  M : x.G.M = fun _ => False
  H0 : x.G.H0 = H
  le : Hp.le H x.G.H
  sv : SVok x.G.H x.A x.n x.c x.es
  own : Own x.G x.A x.n x.c 14 47
theorem Own.nc {G : Gh} {A : Option Addr} {n c k : Nat} {e : TypeId} (h : Own G A n c k e) : A = none → c = 0 := fun ha => by
  rcases h with ⟨_, _, h⟩ | ⟨b, h, _⟩
  · exact h
  · rw [ha] at h; cases h
theorem Own.room {G : Gh} {A : Option Addr} {n c k m : Nat} {e : TypeId} (h : Own G A n c k e) (hm : 0 < m) (hc : n + m ≤ c) : ∃ b, A = some ⟨b, 0, none⟩ ∧ ⟨b, n, c, k, e⟩ ∈ G.R := by
  rcases h with ⟨_, h1, h2⟩ | h
  · omega
  · exact h
noncomputable def C86 : Code := fbody Try.f86
theorem C86b : Try.f86.body = some C86 := by kernel_rfl
theorem C86r : Try.f86.results.toList = [.tmp 2] := by kernel_rfl
def D86 : List (List Nat) := []
theorem D86ok : drOk C86 D86 = true := by kernel_rfl
noncomputable def E86 (O : Ops) (H : Hp) : Env := ⟨O, H, TE, C86, [.tmp 2], D86⟩
def SlV (A : Option Addr) (n c : Nat) : AV := .t (.c (.v (.slice A n c)))
def iV (i : Int) : AV := .t (.c (.v (.int .i64 i)))
theorem Concat_pcr (ad : Addr) (A1 A2 : Option Addr) (n1 n2 c1 c2 : Nat) (es1 es2 : List Entry) (H : Hp) (e1 : hat H ad 0 = some (.slice A1 n1 c1)) (e2 : hat H ad 1 = some (.slice A2 n2 c2))
    (h1 : SVok H A1 n1 c1 es1) (h2 : SVok H A2 n2 c2 es2) (hb : n1 + n2 ≤ 1048576) :
    PCR Try.prog 86 [.slice (some ad) 2 2] H fun H' Ro v => ∃ A' n' c', v = .slice A' n' c' ∧ SVok H' A' n' c' (es1 ++ es2) ∧ OwnR Ro A' n' c' 14 47 := by
  refine PCR.enter [.c (.v (.slice (some ad) 2 2))] Try.func86 C86b rfl 36 Try.ntmps86 (by simp) fun w hw => ?_
  refine ops_open fun oW oA oS oM oBa oBo oBx oBn oE oN oL oLe oAnd oOr oNot oBq oSq oMx oMn oC oSz oAd oIx oQu oRe oSl oSr hO => ?_
  refine run_sound (E := E86 ⟨oW, oA, oS, oM, oBa, oBo, oBx, oBn, oE, oN, oL, oLe, oAnd, oOr, oNot, oBq, oSq, oMx, oMn, oC, oSz, oAd, oIx, oQu, oRe, oSl, oSr⟩ H) TEok hO Tm D86ok (PanicOk.body _ _ _) (Hp.le_refl _) 4000 _ _ ?_
  conv => arg 5; cbv
  simp only [Res.ok]
  have a01 : oA .i64 0 1 = 1 := by
    obtain ⟨rfl, rfl, rfl, rfl, rfl, rfl, rfl, rfl, rfl, rfl, rfl, rfl, rfl, rfl, rfl, rfl, rfl, rfl, rfl, rfl, rfl, rfl, rfl, rfl, rfl, rfl, rfl⟩ := Ops.mk.inj hO
    rfl
  have a12 : oA .i64 1 1 = 2 := by
    obtain ⟨rfl, rfl, rfl, rfl, rfl, rfl, rfl, rfl, rfl, rfl, rfl, rfl, rfl, rfl, rfl, rfl, rfl, rfl, rfl, rfl, rfl, rfl, rfl, rfl, rfl, rfl, rfl⟩ := Ops.mk.inj hO
    rfl
  have s0 : oA .i64 0 (oC n1) = n1 := by
    obtain ⟨rfl, rfl, rfl, rfl, rfl, rfl, rfl, rfl, rfl, rfl, rfl, rfl, rfl, rfl, rfl, rfl, rfl, rfl, rfl, rfl, rfl, rfl, rfl, rfl, rfl, rfl, rfl⟩ := Ops.mk.inj hO
    show IntKind.i64.wrap (0 + (n1 : Int)) = n1
    rw [Int.zero_add]; exact w64 (by omega) (by omega)
  have s1 : oA .i64 n1 (oC n2) = n1 + n2 := by
    obtain ⟨rfl, rfl, rfl, rfl, rfl, rfl, rfl, rfl, rfl, rfl, rfl, rfl, rfl, rfl, rfl, rfl, rfl, rfl, rfl, rfl, rfl, rfl, rfl, rfl, rfl, rfl, rfl⟩ := Ops.mk.inj hO
    show IntKind.i64.wrap ((n1 : Int) + n2) = n1 + n2
    exact w64 (by omega) (by omega)
  have l0 : oL 0 (oC 2) = true := by
    obtain ⟨rfl, rfl, rfl, rfl, rfl, rfl, rfl, rfl, rfl, rfl, rfl, rfl, rfl, rfl, rfl, rfl, rfl, rfl, rfl, rfl, rfl, rfl, rfl, rfl, rfl, rfl, rfl⟩ := Ops.mk.inj hO
    rfl
  have l1 : oL 1 (oC 2) = true := by
    obtain ⟨rfl, rfl, rfl, rfl, rfl, rfl, rfl, rfl, rfl, rfl, rfl, rfl, rfl, rfl, rfl, rfl, rfl, rfl, rfl, rfl, rfl, rfl, rfl, rfl, rfl, rfl, rfl⟩ := Ops.mk.inj hO
    rfl
  have l2 : oL 2 (oC 2) = false := by
    obtain ⟨rfl, rfl, rfl, rfl, rfl, rfl, rfl, rfl, rfl, rfl, rfl, rfl, rfl, rfl, rfl, rfl, rfl, rfl, rfl, rfl, rfl, rfl, rfl, rfl, rfl, rfl, rfl⟩ := Ops.mk.inj hO
    rfl
  have z0 : oL n1 0 = false := by
    obtain ⟨rfl, rfl, rfl, rfl, rfl, rfl, rfl, rfl, rfl, rfl, rfl, rfl, rfl, rfl, rfl, rfl, rfl, rfl, rfl, rfl, rfl, rfl, rfl, rfl, rfl, rfl, rfl⟩ := Ops.mk.inj hO
    simp
  have z1 : oL (n1 + n2) 0 = false := by
    obtain ⟨rfl, rfl, rfl, rfl, rfl, rfl, rfl, rfl, rfl, rfl, rfl, rfl, rfl, rfl, rfl, rfl, rfl, rfl, rfl, rfl, rfl, rfl, rfl, rfl, rfl, rfl, rfl⟩ := Ops.mk.inj hO
    simp; omega
  have sp := hat_spot e1
  obtain ⟨S1, hS1⟩ : ∃ S1 : Int, (n1 : Int) = S1 := ⟨_, rfl⟩
  obtain ⟨S2, hS2⟩ : ∃ S2 : Int, (n1 : Int) + n2 = S2 := ⟨_, rfl⟩
  rw [hS1] at s0 s1 z0
  rw [← hS1, hS2] at s1
  rw [hS2] at z1
  rw [hS1] at s1
  refine LoopG.mk [0, 3, 9, 10, 11] (fun x : Int × Int × Nat => x = (0, 0, 2) ∨ x = (1, S1, 1) ∨ x = (2, S2, 0))
    (fun x => { n := 36, t := [(0, SlV (some ad) 2 2), (3, iV x.2.1), (9, SlV (some ad) 2 2), (10, iV (oC 2)), (11, iV x.1)], g := [], bx := [] }) (fun _ => Gh.start w H) (fun x => x.2.2) (0, 0, 2) rfl ⟨_, rfl⟩ (.inl rfl) rfl rfl ?_
  rintro x (rfl | rfl | rfl)
  · refine run_sound (E := E86 ⟨oW, oA, oS, oM, oBa, oBo, oBx, oBn, oE, oN, oL, oLe, oAnd, oOr, oNot, oBq, oSq, oMx, oMn, oC, oSz, oAd, oIx, oQu, oRe, oSl, oSr⟩ H) TEok hO Tm D86ok (PanicOk.lq (PanicOk.body _ _ _)) (Hp.le_refl _) 4000 _ _ ?_
    conv => arg 5; cbv
    simp only [Res.ok]
    refine ⟨fun _ => ?_, fun hh => (by rw [l0] at hh; cases hh)⟩
    refine ⟨Int.le_refl _, by decide, ad, rfl, fun pa hpa => ⟨_, rfl, ?_⟩⟩
    have hp : hat H pa 0 = some (.slice A1 n1 c1) := by rw [hpa, hat_add sp]; exact e1
    refine run_sound (E := E86 ⟨oW, oA, oS, oM, oBa, oBo, oBx, oBn, oE, oN, oL, oLe, oAnd, oOr, oNot, oBq, oSq, oMx, oMn, oC, oSz, oAd, oIx, oQu, oRe, oSl, oSr⟩ H) TEok hO Tm D86ok (PanicOk.lq (PanicOk.body _ _ _)) (Hp.le_refl _) 4000 _ _ ?_
    conv => arg 5; cbv
    simp only [Res.ok]
    refine ⟨[_], rfl, fun j v hv => ?_, .inr ⟨rfl, .slice A1 n1 c1, _, rfl, rfl, ?_⟩⟩
    · cases j with
      | zero => simp at hv; subst hv; exact hp
      | succ j => simp at hv
    refine run_sound (E := E86 ⟨oW, oA, oS, oM, oBa, oBo, oBx, oBn, oE, oN, oL, oLe, oAnd, oOr, oNot, oBq, oSq, oMx, oMn, oC, oSz, oAd, oIx, oQu, oRe, oSl, oSr⟩ H) TEok hO Tm D86ok (PanicOk.lq (PanicOk.body _ _ _)) (Hp.le_refl _) 4000 _ _ ?_
    conv => arg 5; cbv
    simp only [Res.ok]
    rw [s0, a01, z0]
    refine ⟨fun hh => (by cases hh), fun _ => ?_⟩
    exact FinG.round [0, 3, 9, 10, 11] (1, S1, 1) (.inr (.inl rfl)) (by show (1 : Nat) < 2; decide) rfl rfl
  · refine run_sound (E := E86 ⟨oW, oA, oS, oM, oBa, oBo, oBx, oBn, oE, oN, oL, oLe, oAnd, oOr, oNot, oBq, oSq, oMx, oMn, oC, oSz, oAd, oIx, oQu, oRe, oSl, oSr⟩ H) TEok hO Tm D86ok (PanicOk.lq (PanicOk.body _ _ _)) (Hp.le_refl _) 4000 _ _ ?_
    conv => arg 5; cbv
    simp only [Res.ok]
    refine ⟨fun _ => ?_, fun hh => (by rw [l1] at hh; cases hh)⟩
    refine ⟨by decide, by decide, ad, rfl, fun pa hpa => ⟨_, rfl, ?_⟩⟩
    have hp : hat H pa 0 = some (.slice A2 n2 c2) := by rw [hpa, hat_add sp]; exact e2
    refine run_sound (E := E86 ⟨oW, oA, oS, oM, oBa, oBo, oBx, oBn, oE, oN, oL, oLe, oAnd, oOr, oNot, oBq, oSq, oMx, oMn, oC, oSz, oAd, oIx, oQu, oRe, oSl, oSr⟩ H) TEok hO Tm D86ok (PanicOk.lq (PanicOk.body _ _ _)) (Hp.le_refl _) 4000 _ _ ?_
    conv => arg 5; cbv
    simp only [Res.ok]
    refine ⟨[_], rfl, fun j v hv => ?_, .inr ⟨rfl, .slice A2 n2 c2, _, rfl, rfl, ?_⟩⟩
    · cases j with
      | zero => simp at hv; subst hv; exact hp
      | succ j => simp at hv
    refine run_sound (E := E86 ⟨oW, oA, oS, oM, oBa, oBo, oBx, oBn, oE, oN, oL, oLe, oAnd, oOr, oNot, oBq, oSq, oMx, oMn, oC, oSz, oAd, oIx, oQu, oRe, oSl, oSr⟩ H) TEok hO Tm D86ok (PanicOk.lq (PanicOk.body _ _ _)) (Hp.le_refl _) 4000 _ _ ?_
    conv => arg 5; cbv
    simp only [Res.ok]
    rw [s1, a12, z1]
    refine ⟨fun hh => (by cases hh), fun _ => ?_⟩
    exact FinG.round [0, 3, 9, 10, 11] (2, S2, 0) (.inr (.inr rfl)) (by show (0 : Nat) < 1; decide) rfl rfl
  · refine run_sound (E := E86 ⟨oW, oA, oS, oM, oBa, oBo, oBx, oBn, oE, oN, oL, oLe, oAnd, oOr, oNot, oBq, oSq, oMx, oMn, oC, oSz, oAd, oIx, oQu, oRe, oSl, oSr⟩ H) TEok hO Tm D86ok (PanicOk.lq (PanicOk.body _ _ _)) (Hp.le_refl _) 4000 _ _ ?_
    conv => arg 5; cbv
    simp only [Res.ok]
    refine ⟨fun hh => (by rw [l2] at hh; cases hh), fun _ => ?_⟩
    refine FinG.leave rfl rfl ?_
    refine run_sound (E := E86 ⟨oW, oA, oS, oM, oBa, oBo, oBx, oBn, oE, oN, oL, oLe, oAnd, oOr, oNot, oBq, oSq, oMx, oMn, oC, oSz, oAd, oIx, oQu, oRe, oSl, oSr⟩ H) TEok hO Tm D86ok (PanicOk.body _ _ _) (Hp.le_refl _) 4000 _ _ ?_
    conv => arg 5; cbv
    simp only [Res.ok]
    refine EvG.own Try.call111 (fun _ => rfl) (Rin := []) (by simp) (by simp) (Grow_pc S2 H (by omega) (by omega)) ?_
    intro H1 Ro v hle hv
    obtain ⟨A3, c3, rfl, hown⟩ : ∃ A3 c3, v = .slice A3 0 c3 ∧ Own { Gh.start w H with H := H1, R := Ro } A3 0 c3 14 47 := by
      rcases hv with ⟨_, rfl, rfl⟩ | ⟨_, b, c', rfl, _, rfl⟩
      · exact ⟨none, 0, rfl, .inl ⟨rfl, rfl, rfl⟩⟩
      · exact ⟨_, c', rfl, .inr ⟨b, rfl, List.mem_cons_self⟩⟩
    refine ⟨.t (.c (.v (.slice A3 0 c3))), _, fun _ => rfl, rfl, ?_⟩
    have hR : (Ro ++ (Gh.start w H).R.filter fun x => ([] : List ORow).all fun q => q.b != x.b) = Ro := by simp [Gh.start]
    rw [hR]
    refine run_sound (E := E86 ⟨oW, oA, oS, oM, oBa, oBo, oBx, oBn, oE, oN, oL, oLe, oAnd, oOr, oNot, oBq, oSq, oMx, oMn, oC, oSz, oAd, oIx, oQu, oRe, oSl, oSr⟩ H1) TEok hO Tm D86ok (PanicOk.body _ _ _) (Hp.le_refl _) 4000 _ _ ?_
    conv => arg 5; cbv
    simp only [Res.ok]
    refine LoopG.mk [6, 25, 26, 27] (fun x : Acc => x.ok w H ∧ (x.i = 0 ∧ x.m = 2 ∧ x.es = [] ∨ x.i = 1 ∧ x.m = 1 ∧ x.es = es1 ∨ x.i = 2 ∧ x.m = 0 ∧ x.es = es1 ++ es2))
      (fun x => { n := 36, t := [(6, SlV x.A x.n x.c), (25, SlV (some ad) 2 2), (26, iV (oC 2)), (27, iV x.i)], g := [], bx := [] }) Acc.G Acc.m ⟨0, 2, A3, 0, c3, [], { Gh.start w H with H := H1, R := Ro }⟩ rfl ⟨_, rfl⟩
      ⟨⟨rfl, rfl, rfl, hle, ⟨rfl, Nat.zero_le _, fun i x hx => by simp at hx⟩, hown⟩, .inl ⟨rfl, rfl, rfl⟩⟩ rfl rfl ?_
    rintro ⟨i, m, A, n, c, es, G⟩ ⟨hx, ⟨e3, e4, e5⟩ | ⟨e3, e4, e5⟩ | ⟨e3, e4, e5⟩⟩ <;> simp only at e3 e4 e5 hx ⊢ <;> subst e3 e4 e5
    · refine run_sound (E := E86 ⟨oW, oA, oS, oM, oBa, oBo, oBx, oBn, oE, oN, oL, oLe, oAnd, oOr, oNot, oBq, oSq, oMx, oMn, oC, oSz, oAd, oIx, oQu, oRe, oSl, oSr⟩ G.H) TEok hO Tm D86ok (PanicOk.lq (PanicOk.body _ _ _)) (Hp.le_refl _) 4000 _ _ ?_
      conv => arg 5; cbv
      simp only [Res.ok]
      refine ⟨fun _ => ?_, fun hh => (by rw [l0] at hh; cases hh)⟩
      refine ⟨by decide, by decide, ad, rfl, fun pa hpa => ⟨_, rfl, ?_⟩⟩
      have hp : hat G.H pa 0 = some (.slice A1 n1 c1) := by rw [hpa, hat_add sp]; exact hat_mono hx.le e1
      refine run_sound (E := E86 ⟨oW, oA, oS, oM, oBa, oBo, oBx, oBn, oE, oN, oL, oLe, oAnd, oOr, oNot, oBq, oSq, oMx, oMn, oC, oSz, oAd, oIx, oQu, oRe, oSl, oSr⟩ G.H) TEok hO Tm D86ok (PanicOk.lq (PanicOk.body _ _ _)) (Hp.le_refl _) 4000 _ _ ?_
      conv => arg 5; cbv
      simp only [Res.ok]
      refine ⟨[_], rfl, fun j v hv => ?_, .inr ⟨rfl, .slice A1 n1 c1, _, rfl, rfl, ?_⟩⟩
      · cases j with
        | zero => simp at hv; subst hv; exact hp
        | succ j => simp at hv
      refine run_sound (E := E86 ⟨oW, oA, oS, oM, oBa, oBo, oBx, oBn, oE, oN, oL, oLe, oAnd, oOr, oNot, oBq, oSq, oMx, oMn, oC, oSz, oAd, oIx, oQu, oRe, oSl, oSr⟩ G.H) TEok hO Tm D86ok (PanicOk.lq (PanicOk.body _ _ _)) (Hp.le_refl _) 4000 _ _ ?_
      conv => arg 5; cbv
      simp only [Res.ok]
      refine fun hit => ⟨flatE [], flatE es1, hx.sv.rw, (h1.mono hx.le).rw, flatE_one, hx.sv.2.1, by have h0 : n = 0 := hx.sv.1; omega, hx.own.nc, hx.own.room, fun A' c' G' hn' hle' hrw hc' => ?_⟩
      have hx' : Acc.ok ⟨1, 1, A', n + n1, c', [] ++ es1, G'⟩ w H := ⟨hn'.same.1.trans hx.w0, hn'.same.2.1.trans hx.M, hn'.same.2.2.trans hx.H0, Hp.le_trans hx.le hle', SVok.of (by rw [List.length_append, ← hx.sv.1, ← h1.1]) hc' (by rw [flatE_append]; exact hrw), hn'.own hx.own⟩
      refine ⟨_, rfl, ?_⟩
      obtain ⟨nn, hnn⟩ : ∃ nn, n + n1 = nn := ⟨_, rfl⟩
      rw [hnn] at hx' ⊢
      refine run_sound (E := E86 ⟨oW, oA, oS, oM, oBa, oBo, oBx, oBn, oE, oN, oL, oLe, oAnd, oOr, oNot, oBq, oSq, oMx, oMn, oC, oSz, oAd, oIx, oQu, oRe, oSl, oSr⟩ G'.H) TEok hO Tm D86ok (PanicOk.lq (PanicOk.body _ _ _)) (Hp.le_refl _) 4000 _ _ ?_
      conv => arg 5; cbv
      simp only [Res.ok]
      rw [a01]
      exact FinG.round [6, 25, 26, 27] ⟨1, 1, A', nn, c', [] ++ es1, G'⟩ ⟨hx', .inr (.inl ⟨rfl, rfl, rfl⟩)⟩ (by show (1 : Nat) < 2; decide) rfl rfl
    · refine run_sound (E := E86 ⟨oW, oA, oS, oM, oBa, oBo, oBx, oBn, oE, oN, oL, oLe, oAnd, oOr, oNot, oBq, oSq, oMx, oMn, oC, oSz, oAd, oIx, oQu, oRe, oSl, oSr⟩ G.H) TEok hO Tm D86ok (PanicOk.lq (PanicOk.body _ _ _)) (Hp.le_refl _) 4000 _ _ ?_
      conv => arg 5; cbv
      simp only [Res.ok]
      refine ⟨fun _ => ?_, fun hh => (by rw [l1] at hh; cases hh)⟩
      refine ⟨by decide, by decide, ad, rfl, fun pa hpa => ⟨_, rfl, ?_⟩⟩
      have hp : hat G.H pa 0 = some (.slice A2 n2 c2) := by rw [hpa, hat_add sp]; exact hat_mono hx.le e2
      refine run_sound (E := E86 ⟨oW, oA, oS, oM, oBa, oBo, oBx, oBn, oE, oN, oL, oLe, oAnd, oOr, oNot, oBq, oSq, oMx, oMn, oC, oSz, oAd, oIx, oQu, oRe, oSl, oSr⟩ G.H) TEok hO Tm D86ok (PanicOk.lq (PanicOk.body _ _ _)) (Hp.le_refl _) 4000 _ _ ?_
      conv => arg 5; cbv
      simp only [Res.ok]
      refine ⟨[_], rfl, fun j v hv => ?_, .inr ⟨rfl, .slice A2 n2 c2, _, rfl, rfl, ?_⟩⟩
      · cases j with
        | zero => simp at hv; subst hv; exact hp
        | succ j => simp at hv
      refine run_sound (E := E86 ⟨oW, oA, oS, oM, oBa, oBo, oBx, oBn, oE, oN, oL, oLe, oAnd, oOr, oNot, oBq, oSq, oMx, oMn, oC, oSz, oAd, oIx, oQu, oRe, oSl, oSr⟩ G.H) TEok hO Tm D86ok (PanicOk.lq (PanicOk.body _ _ _)) (Hp.le_refl _) 4000 _ _ ?_
      conv => arg 5; cbv
      simp only [Res.ok]
      refine fun hit => ⟨flatE es, flatE es2, hx.sv.rw, (h2.mono hx.le).rw, flatE_one, hx.sv.2.1, by have h0 : n = es.length := hx.sv.1; have := h1.1; omega, hx.own.nc, hx.own.room, fun A' c' G' hn' hle' hrw hc' => ?_⟩
      have hx' : Acc.ok ⟨2, 0, A', n + n2, c', es ++ es2, G'⟩ w H := ⟨hn'.same.1.trans hx.w0, hn'.same.2.1.trans hx.M, hn'.same.2.2.trans hx.H0, Hp.le_trans hx.le hle', SVok.of (by rw [List.length_append, ← hx.sv.1, ← h2.1]) hc' (by rw [flatE_append]; exact hrw), hn'.own hx.own⟩
      refine ⟨_, rfl, ?_⟩
      obtain ⟨nn, hnn⟩ : ∃ nn, n + n2 = nn := ⟨_, rfl⟩
      rw [hnn] at hx' ⊢
      refine run_sound (E := E86 ⟨oW, oA, oS, oM, oBa, oBo, oBx, oBn, oE, oN, oL, oLe, oAnd, oOr, oNot, oBq, oSq, oMx, oMn, oC, oSz, oAd, oIx, oQu, oRe, oSl, oSr⟩ G'.H) TEok hO Tm D86ok (PanicOk.lq (PanicOk.body _ _ _)) (Hp.le_refl _) 4000 _ _ ?_
      conv => arg 5; cbv
      simp only [Res.ok]
      rw [a12]
      exact FinG.round [6, 25, 26, 27] ⟨2, 0, A', nn, c', es ++ es2, G'⟩ ⟨hx', .inr (.inr ⟨rfl, rfl, rfl⟩)⟩ (by show (0 : Nat) < 1; decide) rfl rfl
    · refine run_sound (E := E86 ⟨oW, oA, oS, oM, oBa, oBo, oBx, oBn, oE, oN, oL, oLe, oAnd, oOr, oNot, oBq, oSq, oMx, oMn, oC, oSz, oAd, oIx, oQu, oRe, oSl, oSr⟩ G.H) TEok hO Tm D86ok (PanicOk.lq (PanicOk.body _ _ _)) (Hp.le_refl _) 4000 _ _ ?_
      conv => arg 5; cbv
      simp only [Res.ok]
      refine ⟨fun hh => (by rw [l2] at hh; cases hh), fun _ => ?_⟩
      refine FinG.leave rfl rfl ?_
      refine run_sound (E := E86 ⟨oW, oA, oS, oM, oBa, oBo, oBx, oBn, oE, oN, oL, oLe, oAnd, oOr, oNot, oBq, oSq, oMx, oMn, oC, oSz, oAd, oIx, oQu, oRe, oSl, oSr⟩ G.H) TEok hO Tm D86ok (PanicOk.body _ _ _) (Hp.le_refl _) 4000 _ _ ?_
      conv => arg 5; cbv
      simp only [Res.ok]
      obtain ⟨Ro, hRo, hown⟩ := hx.own.ownR
      exact RetG.pcr TEok C86r hx.w0 hx.M hx.H0 hRo (fun _ => rfl) ⟨A, n, c, rfl, hx.sv, hown⟩
end Go.Sx