/- Contracts: what a log may be. -/
import Derived.Test.YtkmplcpibgnjcaaE17
namespace Go.Sx
open Go.Proofs Go.RowKit

theorem ent_drop {H : Hp} {e : Entry} {pa : Addr} (h : ∀ (j : Nat) (v : Value), e.cs[j]? = some v → hat H pa j = some v) (k j : Nat) (v : Value) (hv : (e.cs.drop k)[j]? = some v) : hat H (pa.add k) j = some v := by
  rw [List.getElem?_drop] at hv
  have h0 := h (k + j) v hv
  rw [hat_add (hat_spot h0)]; exact h0
theorem one_at {H : Hp} {ad : Addr} {u : Value} (h : hat H ad 0 = some u) : ∀ (j : Nat) (v : Value), [u][j]? = some v → hat H ad j = some v := fun j v hv => by
  cases j with
  | zero => simp at hv; subst hv; exact h
  | succ j => simp at hv
noncomputable def C63 : Code := fbody Try.f63
theorem C63b : Try.f63.body = some C63 := by kernel_rfl
theorem C63r : Try.f63.results.toList = [.tmp 2] := by kernel_rfl
def D63 : List (List Nat) := []
theorem D63ok : drOk C63 D63 = true := by kernel_rfl
noncomputable def E63 (O : Ops) (H : Hp) : Env := ⟨O, H, TE, C63, [.tmp 2], D63⟩
theorem small_pc (A : Option Addr) (n c : Nat) (es : List Entry) (H : Hp) (h : SVok H A n c es) (hb : n ≤ 1048576) : PC Try.prog 63 [.slice A n c] H fun _ v => ∃ b, v = .bool b := by
  refine PC.enter [.c (.v (.slice A n c))] Try.func63 C63b rfl 17 Try.ntmps63 (by simp) fun w hw => ?_
  refine ops_open fun oW oA oS oM oBa oBo oBx oBn oE oN oL oLe oAnd oOr oNot oBq oSq oMx oMn oC oSz oAd oIx oQu oRe oSl oSr hO => ?_
  have had : ∀ pa k, oAd pa k = pa.add k := by
    obtain ⟨rfl, rfl, rfl, rfl, rfl, rfl, rfl, rfl, rfl, rfl, rfl, rfl, rfl, rfl, rfl, rfl, rfl, rfl, rfl, rfl, rfl, rfl, rfl, rfl, rfl, rfl, rfl⟩ := Ops.mk.inj hO
    intro pa k
    rfl
  refine run_sound (E := E63 ⟨oW, oA, oS, oM, oBa, oBo, oBx, oBn, oE, oN, oL, oLe, oAnd, oOr, oNot, oBq, oSq, oMx, oMn, oC, oSz, oAd, oIx, oQu, oRe, oSl, oSr⟩ _) TEok hO Tm D63ok (PanicOk.body _ _ _) (Hp.le_refl _) 4000 _ _ ?_
  conv => arg 5; cbv
  simp only [Res.ok]
  refine LoopG.mk [0, 3] (fun k : Nat => k ≤ n) (fun k => ⟨17, [(0, SlV A n c), (3, iV k)], [], []⟩) (fun _ => Gh.start w H) (fun k => n - k) 0 rfl ⟨_, rfl⟩ (Nat.zero_le _) rfl rfl ?_
  intro k hk
  obtain ⟨ki, hki⟩ : ∃ ki : Int, (k : Int) = ki := ⟨_, rfl⟩
  simp only [hki]
  refine run_sound (E := E63 ⟨oW, oA, oS, oM, oBa, oBo, oBx, oBn, oE, oN, oL, oLe, oAnd, oOr, oNot, oBq, oSq, oMx, oMn, oC, oSz, oAd, oIx, oQu, oRe, oSl, oSr⟩ _) TEok hO Tm D63ok (PanicOk.lq (PanicOk.body _ _ _)) (Hp.le_refl _) 4000 _ _ ?_
  conv => arg 5; cbv
  simp only [Res.ok]
  refine ⟨fun hh => ?_, fun hh => ?_⟩
  · have hlt : ki < n := by
      obtain ⟨rfl, rfl, rfl, rfl, rfl, rfl, rfl, rfl, rfl, rfl, rfl, rfl, rfl, rfl, rfl, rfl, rfl, rfl, rfl, rfl, rfl, rfl, rfl, rfl, rfl, rfl, rfl⟩ := Ops.mk.inj hO
      simpa [Ops.std] using hh
    obtain ⟨e, ad, g1, k1, q1⟩ := row_at h (k := ki) (by omega) hlt
    refine ⟨by omega, hlt, ad, k1, fun pa hpa => ⟨_, rfl, ?_⟩⟩
    have hp := q1 pa hpa
    refine run_sound (E := E63 ⟨oW, oA, oS, oM, oBa, oBo, oBx, oBn, oE, oN, oL, oLe, oAnd, oOr, oNot, oBq, oSq, oMx, oMn, oC, oSz, oAd, oIx, oQu, oRe, oSl, oSr⟩ _) TEok hO Tm D63ok (PanicOk.lq (PanicOk.body _ _ _)) (Hp.le_refl _) 4000 _ _ ?_
    conv => arg 5; cbv
    simp only [Res.ok]
    rw [had]
    refine ⟨[.string e.data], rfl, one_at (ent_drop hp 2 0 _ rfl), .inr ⟨rfl, _, _, rfl, rfl, ?_⟩⟩
    have hk1 : oA .i64 ki 1 = ((k + 1 : Nat) : Int) := by
      obtain ⟨rfl, rfl, rfl, rfl, rfl, rfl, rfl, rfl, rfl, rfl, rfl, rfl, rfl, rfl, rfl, rfl, rfl, rfl, rfl, rfl, rfl, rfl, rfl, rfl, rfl, rfl, rfl⟩ := Ops.mk.inj hO
      rw [← hki]
      exact w64 (by omega) (by omega)
    refine run_sound (E := E63 ⟨oW, oA, oS, oM, oBa, oBo, oBx, oBn, oE, oN, oL, oLe, oAnd, oOr, oNot, oBq, oSq, oMx, oMn, oC, oSz, oAd, oIx, oQu, oRe, oSl, oSr⟩ _) TEok hO Tm D63ok (PanicOk.lq (PanicOk.body _ _ _)) (Hp.le_refl _) 4000 _ _ ?_
    conv => arg 5; cbv
    simp only [Res.ok]
    refine ⟨fun _ => ?_, fun _ => ?_⟩
    · exact RetG.loop (RetG.pc TEok C63r rfl rfl rfl (fun _ => rfl) ⟨_, rfl⟩)
    · rw [hk1]
      exact FinG.round [0, 3] (k + 1) (by omega) (by show n - (k + 1) < n - k; omega) rfl rfl
  · refine FinG.leave rfl rfl ?_
    refine run_sound (E := E63 ⟨oW, oA, oS, oM, oBa, oBo, oBx, oBn, oE, oN, oL, oLe, oAnd, oOr, oNot, oBq, oSq, oMx, oMn, oC, oSz, oAd, oIx, oQu, oRe, oSl, oSr⟩ _) TEok hO Tm D63ok (PanicOk.body _ _ _) (Hp.le_refl _) 4000 _ _ ?_
    conv => arg 5; cbv
    simp only [Res.ok]
    exact RetG.pc TEok C63r rfl rfl rfl (fun _ => rfl) ⟨_, rfl⟩
noncomputable def C21 : Code := fbody Try.f21
theorem C21b : Try.f21.body = some C21 := by kernel_rfl
theorem C21r : Try.f21.results.toList = [.tmp 4] := by kernel_rfl
def D21 : List (List Nat) := []
theorem D21ok : drOk C21 D21 = true := by kernel_rfl
noncomputable def E21 (O : Ops) (H : Hp) : Env := ⟨O, H, TE, C21, [.tmp 4], D21⟩
theorem Light_pc (l : LV) (A : Option Addr) (n c : Nat) (es : List Entry) (H : Hp) (hl : l.ok H) (h : SVok H A n c es) : PC Try.prog 21 [aggV l.cs, .slice A n c] H fun _ v => ∃ b, v = .bool b ∧ (b = true → l.n ≤ 60 ∧ n ≤ 60) := by
  refine PC.enter [aggT l.cs, .c (.v (.slice A n c))] Try.func21 C21b rfl 21 Try.ntmps21 (by simp) fun w hw => ?_
  refine ops_open fun oW oA oS oM oBa oBo oBx oBn oE oN oL oLe oAnd oOr oNot oBq oSq oMx oMn oC oSz oAd oIx oQu oRe oSl oSr hO => ?_
  refine run_sound (E := E21 ⟨oW, oA, oS, oM, oBa, oBo, oBx, oBn, oE, oN, oL, oLe, oAnd, oOr, oNot, oBq, oSq, oMx, oMn, oC, oSz, oAd, oIx, oQu, oRe, oSl, oSr⟩ _) TEok hO Tm D21ok (PanicOk.body _ _ _) (Hp.le_refl _) 4000 _ _ ?_
  conv => arg 5; cbv
  simp only [Res.ok]
  refine ⟨fun hh => ?_, fun hh => ?_⟩
  · exact RetG.pc TEok C21r rfl rfl rfl (fun _ => rfl) ⟨false, rfl, fun h => by cases h⟩
  have hn : l.n ≤ 60 ∧ n ≤ 60 := by
    obtain ⟨rfl, rfl, rfl, rfl, rfl, rfl, rfl, rfl, rfl, rfl, rfl, rfl, rfl, rfl, rfl, rfl, rfl, rfl, rfl, rfl, rfl, rfl, rfl, rfl, rfl, rfl, rfl⟩ := Ops.mk.inj hO
    simp [Ops.std] at hh
    have h2 : (l.n : Int) ≤ 60 := hh.1
    omega
  refine EvG.pure Try.call63 (fun _ => rfl) (small_pc l.A l.n l.c l.es _ (SVok.lv hl) (by omega)) ?_
  rintro H1 v hle1 ⟨b, rfl⟩
  refine ⟨.t (.c (.v (.bool b))), _, fun _ => (by first | exact rfl | exact ⟨_, rfl, rfl⟩ | exact aggT_den _ _), rfl, ?_⟩
  refine run_sound (E := E21 ⟨oW, oA, oS, oM, oBa, oBo, oBx, oBn, oE, oN, oL, oLe, oAnd, oOr, oNot, oBq, oSq, oMx, oMn, oC, oSz, oAd, oIx, oQu, oRe, oSl, oSr⟩ _) TEok hO Tm D21ok (PanicOk.body _ _ _) (Hp.le_refl _) 4000 _ _ ?_
  conv => arg 5; cbv
  simp only [Res.ok]
  refine ⟨fun _ => ?_, fun _ => ?_⟩
  · refine EvG.pure Try.call63 (fun _ => rfl) (small_pc A n c es _ (h.mono hle1) (by omega)) ?_
    rintro H2 v hle2 ⟨b2, rfl⟩
    refine ⟨.t (.c (.v (.bool b2))), _, fun _ => (by first | exact rfl | exact ⟨_, rfl, rfl⟩ | exact aggT_den _ _), rfl, ?_⟩
    refine run_sound (E := E21 ⟨oW, oA, oS, oM, oBa, oBo, oBx, oBn, oE, oN, oL, oLe, oAnd, oOr, oNot, oBq, oSq, oMx, oMn, oC, oSz, oAd, oIx, oQu, oRe, oSl, oSr⟩ _) TEok hO Tm D21ok (PanicOk.body _ _ _) (Hp.le_refl _) 4000 _ _ ?_
    conv => arg 5; cbv
    simp only [Res.ok]
    exact RetG.pc TEok C21r rfl rfl rfl (fun _ => rfl) ⟨_, rfl, fun _ => hn⟩
  · exact RetG.pc TEok C21r rfl rfl rfl (fun _ => rfl) ⟨_, rfl, fun _ => hn⟩

def mayE : Int → List Entry → Prop
  | _, [] => True
  | t, e :: r => t ≤ e.term ∧ e.term ≤ 1099511627776 ∧ mayE e.term r
def mayHead (l : LV) : Prop := 0 ≤ l.b ∧ l.b ≤ 1099511627776 ∧ 0 ≤ l.bt ∧ l.bt ≤ 1099511627776
def MayL (l : LV) : Prop := mayHead l ∧ mayE (max l.bt 1) l.es
theorem mayE_step {t : Int} {es : List Entry} {k : Nat} {e : Entry} (h : es[k]? = some e) : mayE t (es.drop k) ↔ t ≤ e.term ∧ e.term ≤ 1099511627776 ∧ mayE e.term (es.drop (k + 1)) := by
  obtain ⟨h7, h8⟩ := List.getElem?_eq_some_iff.1 h
  rw [List.drop_eq_getElem_cons h7, h8]
  rfl
noncomputable def C22 : Code := fbody Try.f22
theorem C22b : Try.f22.body = some C22 := by kernel_rfl
theorem C22r : Try.f22.results.toList = [.tmp 2] := by kernel_rfl
def D22 : List (List Nat) := []
theorem D22ok : drOk C22 D22 = true := by kernel_rfl
noncomputable def E22 (O : Ops) (H : Hp) : Env := ⟨O, H, TE, C22, [.tmp 2], D22⟩
set_option maxRecDepth 100000 in
theorem rMay_pc (l : LV) (H : Hp) (hl : l.ok H) (hb : l.n ≤ 1048576) : PC Try.prog 22 [aggV l.cs] H fun _ v => ∃ b, v = .bool b ∧ (b = true ↔ MayL l) := by
  refine PC.enter [aggT l.cs] Try.func22 C22b rfl 56 Try.ntmps22 (by simp) fun w hw => ?_
  refine ops_open fun oW oA oS oM oBa oBo oBx oBn oE oN oL oLe oAnd oOr oNot oBq oSq oMx oMn oC oSz oAd oIx oQu oRe oSl oSr hO => ?_
  have had : ∀ pa k, oAd pa k = pa.add k := by
    obtain ⟨rfl, rfl, rfl, rfl, rfl, rfl, rfl, rfl, rfl, rfl, rfl, rfl, rfl, rfl, rfl, rfl, rfl, rfl, rfl, rfl, rfl, rfl, rfl, rfl, rfl, rfl, rfl⟩ := Ops.mk.inj hO
    intro pa k
    rfl
  have hmx : oMx l.bt 1 = max l.bt 1 := by
    obtain ⟨rfl, rfl, rfl, rfl, rfl, rfl, rfl, rfl, rfl, rfl, rfl, rfl, rfl, rfl, rfl, rfl, rfl, rfl, rfl, rfl, rfl, rfl, rfl, rfl, rfl, rfl, rfl⟩ := Ops.mk.inj hO
    show (if 1 > l.bt then (1 : Int) else l.bt) = max l.bt 1
    omega
  change oMx l.2 1 = _ at hmx
  refine run_sound (E := E22 ⟨oW, oA, oS, oM, oBa, oBo, oBx, oBn, oE, oN, oL, oLe, oAnd, oOr, oNot, oBq, oSq, oMx, oMn, oC, oSz, oAd, oIx, oQu, oRe, oSl, oSr⟩ _) TEok hO Tm D22ok (PanicOk.body _ _ _) (Hp.le_refl _) 4000 _ _ ?_
  conv => arg 5; cbv
  simp only [Res.ok]
  refine ⟨fun hh => ?_, fun hh => ?_⟩
  · refine RetG.pc TEok C22r rfl rfl rfl (fun _ => rfl) ⟨false, rfl, ?_⟩
    simp only [Bool.false_eq_true, false_iff]
    rintro ⟨⟨h1, h2, h3, h4⟩, -⟩
    change (oOr (oOr (oOr (oL l.b 0) (oL 1099511627776 l.b)) (oL l.bt 0)) (oL 1099511627776 l.bt)) = true at hh
    obtain ⟨rfl, rfl, rfl, rfl, rfl, rfl, rfl, rfl, rfl, rfl, rfl, rfl, rfl, rfl, rfl, rfl, rfl, rfl, rfl, rfl, rfl, rfl, rfl, rfl, rfl, rfl, rfl⟩ := Ops.mk.inj hO
    simp [Ops.std] at hh
    omega
  have hhead : mayHead l := by
    change (oOr (oOr (oOr (oL l.b 0) (oL 1099511627776 l.b)) (oL l.bt 0)) (oL 1099511627776 l.bt)) = false at hh
    obtain ⟨rfl, rfl, rfl, rfl, rfl, rfl, rfl, rfl, rfl, rfl, rfl, rfl, rfl, rfl, rfl, rfl, rfl, rfl, rfl, rfl, rfl, rfl, rfl, rfl, rfl, rfl, rfl⟩ := Ops.mk.inj hO
    simp [Ops.std] at hh
    unfold mayHead
    omega
  clear hh
  rw [hmx]
  have hM : MayL l ↔ mayE (max l.bt 1) l.es := ⟨fun h => h.2, fun h => ⟨hhead, h⟩⟩
  obtain ⟨t0, ht0⟩ : ∃ t0, max l.bt 1 = t0 := ⟨_, rfl⟩
  rw [ht0] at hM ⊢
  refine LoopG.mk [1, 3, 4] (fun y : Nat × Int => y.1 ≤ l.n ∧ (MayL l ↔ mayE y.2 (l.es.drop y.1))) (fun y => ⟨56, [(1, .t (.c (.p 0 0))), (3, iV y.2), (4, iV y.1)], [], [l.cs.map .v]⟩) (fun _ => Gh.start w H) (fun y => l.n - y.1) (0, t0) rfl ⟨_, rfl⟩ ⟨Nat.zero_le _, hM⟩ rfl rfl ?_
  rintro ⟨k, t⟩ ⟨hk, hm⟩
  simp only at hk hm ⊢
  obtain ⟨ki, hki⟩ : ∃ ki : Int, (k : Int) = ki := ⟨_, rfl⟩
  simp only [hki]
  refine run_sound (E := E22 ⟨oW, oA, oS, oM, oBa, oBo, oBx, oBn, oE, oN, oL, oLe, oAnd, oOr, oNot, oBq, oSq, oMx, oMn, oC, oSz, oAd, oIx, oQu, oRe, oSl, oSr⟩ _) TEok hO Tm D22ok (PanicOk.lq (PanicOk.body _ _ _)) (Hp.le_refl _) 4000 _ _ ?_
  conv => arg 5; cbv
  simp only [Res.ok]
  refine ⟨fun hh => ?_, fun hh => ?_⟩
  · have hlt : ki < l.n := by
      obtain ⟨rfl, rfl, rfl, rfl, rfl, rfl, rfl, rfl, rfl, rfl, rfl, rfl, rfl, rfl, rfl, rfl, rfl, rfl, rfl, rfl, rfl, rfl, rfl, rfl, rfl, rfl, rfl⟩ := Ops.mk.inj hO
      simpa [Ops.std] using hh
    obtain ⟨e, ad, g1, k1, q1⟩ := row_at (SVok.lv hl) (k := ki) (by omega) hlt
    have hkn : ki.toNat = k := by omega
    have hst := mayE_step (t := t) (hkn ▸ g1)
    refine ⟨by omega, hlt, ad, k1, fun pa hpa => ⟨_, rfl, ?_⟩⟩
    have hp := q1 pa hpa
    refine run_sound (E := E22 ⟨oW, oA, oS, oM, oBa, oBo, oBx, oBn, oE, oN, oL, oLe, oAnd, oOr, oNot, oBq, oSq, oMx, oMn, oC, oSz, oAd, oIx, oQu, oRe, oSl, oSr⟩ _) TEok hO Tm D22ok (PanicOk.lq (PanicOk.body _ _ _)) (Hp.le_refl _) 4000 _ _ ?_
    conv => arg 5; cbv
    simp only [Res.ok]
    rw [had]
    refine ⟨[.int .i64 e.term], rfl, one_at (ent_drop hp 0 0 _ rfl), .inr ⟨rfl, _, _, rfl, rfl, ?_⟩⟩
    refine run_sound (E := E22 ⟨oW, oA, oS, oM, oBa, oBo, oBx, oBn, oE, oN, oL, oLe, oAnd, oOr, oNot, oBq, oSq, oMx, oMn, oC, oSz, oAd, oIx, oQu, oRe, oSl, oSr⟩ _) TEok hO Tm D22ok (PanicOk.lq (PanicOk.body _ _ _)) (Hp.le_refl _) 4000 _ _ ?_
    conv => arg 5; cbv
    simp only [Res.ok]
    refine ⟨fun h1 => ?_, fun h1 => ?_⟩
    · refine RetG.loop (RetG.pc TEok C22r rfl rfl rfl (fun _ => rfl) ⟨false, rfl, ?_⟩)
      simp only [Bool.false_eq_true, false_iff]
      rw [hm, hst]
      rintro ⟨h2, -, -⟩
      change oL e.term t = true at h1
      obtain ⟨rfl, rfl, rfl, rfl, rfl, rfl, rfl, rfl, rfl, rfl, rfl, rfl, rfl, rfl, rfl, rfl, rfl, rfl, rfl, rfl, rfl, rfl, rfl, rfl, rfl, rfl, rfl⟩ := Ops.mk.inj hO
      simp [Ops.std] at h1
      omega
    refine ⟨by omega, hlt, ad, k1, fun pa2 hpa2 => ⟨_, rfl, ?_⟩⟩
    have hp2 := q1 pa2 hpa2
    refine run_sound (E := E22 ⟨oW, oA, oS, oM, oBa, oBo, oBx, oBn, oE, oN, oL, oLe, oAnd, oOr, oNot, oBq, oSq, oMx, oMn, oC, oSz, oAd, oIx, oQu, oRe, oSl, oSr⟩ _) TEok hO Tm D22ok (PanicOk.lq (PanicOk.body _ _ _)) (Hp.le_refl _) 4000 _ _ ?_
    conv => arg 5; cbv
    simp only [Res.ok]
    rw [had]
    refine ⟨[.int .i64 e.term], rfl, one_at (ent_drop hp2 0 0 _ rfl), .inr ⟨rfl, _, _, rfl, rfl, ?_⟩⟩
    refine run_sound (E := E22 ⟨oW, oA, oS, oM, oBa, oBo, oBx, oBn, oE, oN, oL, oLe, oAnd, oOr, oNot, oBq, oSq, oMx, oMn, oC, oSz, oAd, oIx, oQu, oRe, oSl, oSr⟩ _) TEok hO Tm D22ok (PanicOk.lq (PanicOk.body _ _ _)) (Hp.le_refl _) 4000 _ _ ?_
    conv => arg 5; cbv
    simp only [Res.ok]
    refine ⟨fun h2 => ?_, fun h2 => ?_⟩
    · refine RetG.loop (RetG.pc TEok C22r rfl rfl rfl (fun _ => rfl) ⟨false, rfl, ?_⟩)
      simp only [Bool.false_eq_true, false_iff]
      rw [hm, hst]
      rintro ⟨-, h3, -⟩
      change oL 1099511627776 e.term = true at h2
      obtain ⟨rfl, rfl, rfl, rfl, rfl, rfl, rfl, rfl, rfl, rfl, rfl, rfl, rfl, rfl, rfl, rfl, rfl, rfl, rfl, rfl, rfl, rfl, rfl, rfl, rfl, rfl, rfl⟩ := Ops.mk.inj hO
      simp [Ops.std] at h2
      omega
    refine ⟨by omega, hlt, ad, k1, fun pa3 hpa3 => ⟨_, rfl, ?_⟩⟩
    have hp3 := q1 pa3 hpa3
    have hk1 : oA .i64 ki 1 = ((k + 1 : Nat) : Int) := by
      obtain ⟨rfl, rfl, rfl, rfl, rfl, rfl, rfl, rfl, rfl, rfl, rfl, rfl, rfl, rfl, rfl, rfl, rfl, rfl, rfl, rfl, rfl, rfl, rfl, rfl, rfl, rfl, rfl⟩ := Ops.mk.inj hO
      rw [← hki]
      exact w64 (by omega) (by omega)
    have hle : t ≤ e.term ∧ e.term ≤ 1099511627776 := by
      change oL e.term t = false at h1
      change oL 1099511627776 e.term = false at h2
      obtain ⟨rfl, rfl, rfl, rfl, rfl, rfl, rfl, rfl, rfl, rfl, rfl, rfl, rfl, rfl, rfl, rfl, rfl, rfl, rfl, rfl, rfl, rfl, rfl, rfl, rfl, rfl, rfl⟩ := Ops.mk.inj hO
      simp [Ops.std] at h1 h2
      omega
    refine run_sound (E := E22 ⟨oW, oA, oS, oM, oBa, oBo, oBx, oBn, oE, oN, oL, oLe, oAnd, oOr, oNot, oBq, oSq, oMx, oMn, oC, oSz, oAd, oIx, oQu, oRe, oSl, oSr⟩ _) TEok hO Tm D22ok (PanicOk.lq (PanicOk.body _ _ _)) (Hp.le_refl _) 4000 _ _ ?_
    conv => arg 5; cbv
    simp only [Res.ok]
    rw [had]
    refine ⟨[.int .i64 e.term], rfl, one_at (ent_drop hp3 0 0 _ rfl), .inr ⟨rfl, _, _, rfl, rfl, ?_⟩⟩
    refine run_sound (E := E22 ⟨oW, oA, oS, oM, oBa, oBo, oBx, oBn, oE, oN, oL, oLe, oAnd, oOr, oNot, oBq, oSq, oMx, oMn, oC, oSz, oAd, oIx, oQu, oRe, oSl, oSr⟩ _) TEok hO Tm D22ok (PanicOk.lq (PanicOk.body _ _ _)) (Hp.le_refl _) 4000 _ _ ?_
    conv => arg 5; cbv
    simp only [Res.ok]
    rw [hk1]
    exact FinG.round [1, 3, 4] (k + 1, e.term) ⟨by simp only; omega, by simp only; rw [hm, hst]; exact ⟨fun h => h.2.2, fun h => ⟨hle.1, hle.2, h⟩⟩⟩ (by show l.n - (k + 1) < l.n - k; omega) rfl rfl
  · have hge : ¬ ki < l.n := by
      obtain ⟨rfl, rfl, rfl, rfl, rfl, rfl, rfl, rfl, rfl, rfl, rfl, rfl, rfl, rfl, rfl, rfl, rfl, rfl, rfl, rfl, rfl, rfl, rfl, rfl, rfl, rfl, rfl⟩ := Ops.mk.inj hO
      simpa [Ops.std] using hh
    refine FinG.leave rfl rfl ?_
    refine run_sound (E := E22 ⟨oW, oA, oS, oM, oBa, oBo, oBx, oBn, oE, oN, oL, oLe, oAnd, oOr, oNot, oBq, oSq, oMx, oMn, oC, oSz, oAd, oIx, oQu, oRe, oSl, oSr⟩ _) TEok hO Tm D22ok (PanicOk.body _ _ _) (Hp.le_refl _) 4000 _ _ ?_
    conv => arg 5; cbv
    simp only [Res.ok]
    refine RetG.pc TEok C22r rfl rfl rfl (fun _ => rfl) ⟨true, rfl, ?_⟩
    have hln := hl.1
    rw [hm, List.drop_eq_nil_of_le (by omega)]
    simp [mayE]
noncomputable def C32 : Code := fbody Try.f32
theorem C32b : Try.f32.body = some C32 := by kernel_rfl
theorem C32r : Try.f32.results.toList = [.tmp 2] := by kernel_rfl
def D32 : List (List Nat) := []
theorem D32ok : drOk C32 D32 = true := by kernel_rfl
noncomputable def E32 (O : Ops) (H : Hp) : Env := ⟨O, H, TE, C32, [.tmp 2], D32⟩
set_option maxRecDepth 100000 in
theorem May_pc (l : LV) (H : Hp) (hl : l.ok H) (hb : l.n ≤ 1048576) : PC Try.prog 32 [aggV l.cs] H fun _ v => ∃ b, v = .bool b ∧ (b = true ↔ MayL l) := by
  refine PC.enter [aggT l.cs] Try.func32 C32b rfl 46 Try.ntmps32 (by simp) fun w hw => ?_
  refine ops_open fun oW oA oS oM oBa oBo oBx oBn oE oN oL oLe oAnd oOr oNot oBq oSq oMx oMn oC oSz oAd oIx oQu oRe oSl oSr hO => ?_
  have hmx : oMx l.bt 1 = max l.bt 1 := by
    obtain ⟨rfl, rfl, rfl, rfl, rfl, rfl, rfl, rfl, rfl, rfl, rfl, rfl, rfl, rfl, rfl, rfl, rfl, rfl, rfl, rfl, rfl, rfl, rfl, rfl, rfl, rfl, rfl⟩ := Ops.mk.inj hO
    show (if 1 > l.bt then (1 : Int) else l.bt) = max l.bt 1
    omega
  change oMx l.2 1 = _ at hmx
  have hcn : oC l.n = l.n := by
    obtain ⟨rfl, rfl, rfl, rfl, rfl, rfl, rfl, rfl, rfl, rfl, rfl, rfl, rfl, rfl, rfl, rfl, rfl, rfl, rfl, rfl, rfl, rfl, rfl, rfl, rfl, rfl, rfl⟩ := Ops.mk.inj hO
    rfl
  change oC l.5 = _ at hcn
  obtain ⟨nl, hnl⟩ : ∃ nl : Int, (l.n : Int) = nl := ⟨_, rfl⟩
  refine run_sound (E := E32 ⟨oW, oA, oS, oM, oBa, oBo, oBx, oBn, oE, oN, oL, oLe, oAnd, oOr, oNot, oBq, oSq, oMx, oMn, oC, oSz, oAd, oIx, oQu, oRe, oSl, oSr⟩ _) TEok hO Tm D32ok (PanicOk.body _ _ _) (Hp.le_refl _) 4000 _ _ ?_
  conv => arg 5; cbv
  simp only [Res.ok]
  refine ⟨fun hh => ?_, fun hh => ?_⟩
  · refine RetG.pc TEok C32r rfl rfl rfl (fun _ => rfl) ⟨false, rfl, ?_⟩
    simp only [Bool.false_eq_true, false_iff]
    rintro ⟨⟨h1, h2, h3, h4⟩, -⟩
    change (oOr (oOr (oOr (oL l.b 0) (oL 1099511627776 l.b)) (oL l.bt 0)) (oL 1099511627776 l.bt)) = true at hh
    obtain ⟨rfl, rfl, rfl, rfl, rfl, rfl, rfl, rfl, rfl, rfl, rfl, rfl, rfl, rfl, rfl, rfl, rfl, rfl, rfl, rfl, rfl, rfl, rfl, rfl, rfl, rfl, rfl⟩ := Ops.mk.inj hO
    simp [Ops.std] at hh
    omega
  have hhead : mayHead l := by
    change (oOr (oOr (oOr (oL l.b 0) (oL 1099511627776 l.b)) (oL l.bt 0)) (oL 1099511627776 l.bt)) = false at hh
    obtain ⟨rfl, rfl, rfl, rfl, rfl, rfl, rfl, rfl, rfl, rfl, rfl, rfl, rfl, rfl, rfl, rfl, rfl, rfl, rfl, rfl, rfl, rfl, rfl, rfl, rfl, rfl, rfl⟩ := Ops.mk.inj hO
    simp [Ops.std] at hh
    unfold mayHead
    omega
  clear hh
  rw [hmx, hcn, hnl]
  have hM : MayL l ↔ mayE (max l.bt 1) l.es := ⟨fun h => h.2, fun h => ⟨hhead, h⟩⟩
  obtain ⟨t0, ht0⟩ : ∃ t0, max l.bt 1 = t0 := ⟨_, rfl⟩
  rw [ht0] at hM ⊢
  refine LoopG.mk [1, 3, 28, 29, 30] (fun y : Nat × Int => y.1 ≤ l.n ∧ (MayL l ↔ mayE y.2 (l.es.drop y.1))) (fun y => ⟨46, [(1, .t (.c (.p 0 0))), (3, iV y.2), (28, SlV l.A l.n l.c), (29, iV nl), (30, iV y.1)], [], [l.cs.map .v]⟩) (fun _ => Gh.start w H) (fun y => l.n - y.1) (0, t0) rfl ⟨_, rfl⟩ ⟨Nat.zero_le _, hM⟩ rfl rfl ?_
  rintro ⟨k, t⟩ ⟨hk, hm⟩
  simp only at hk hm ⊢
  obtain ⟨ki, hki⟩ : ∃ ki : Int, (k : Int) = ki := ⟨_, rfl⟩
  simp only [hki]
  refine run_sound (E := E32 ⟨oW, oA, oS, oM, oBa, oBo, oBx, oBn, oE, oN, oL, oLe, oAnd, oOr, oNot, oBq, oSq, oMx, oMn, oC, oSz, oAd, oIx, oQu, oRe, oSl, oSr⟩ _) TEok hO Tm D32ok (PanicOk.lq (PanicOk.body _ _ _)) (Hp.le_refl _) 4000 _ _ ?_
  conv => arg 5; cbv
  simp only [Res.ok]
  refine ⟨fun hh => ?_, fun hh => ?_⟩
  · have hlt : ki < l.n := by
      rw [hnl]
      obtain ⟨rfl, rfl, rfl, rfl, rfl, rfl, rfl, rfl, rfl, rfl, rfl, rfl, rfl, rfl, rfl, rfl, rfl, rfl, rfl, rfl, rfl, rfl, rfl, rfl, rfl, rfl, rfl⟩ := Ops.mk.inj hO
      simpa [Ops.std] using hh
    obtain ⟨e, ad, g1, k1, q1⟩ := row_at (SVok.lv hl) (k := ki) (by omega) hlt
    have hkn : ki.toNat = k := by omega
    have hst := mayE_step (t := t) (hkn ▸ g1)
    refine ⟨by omega, hlt, ad, k1, fun pa hpa => ⟨_, rfl, ?_⟩⟩
    have hp := q1 pa hpa
    refine run_sound (E := E32 ⟨oW, oA, oS, oM, oBa, oBo, oBx, oBn, oE, oN, oL, oLe, oAnd, oOr, oNot, oBq, oSq, oMx, oMn, oC, oSz, oAd, oIx, oQu, oRe, oSl, oSr⟩ _) TEok hO Tm D32ok (PanicOk.lq (PanicOk.body _ _ _)) (Hp.le_refl _) 4000 _ _ ?_
    conv => arg 5; cbv
    simp only [Res.ok]
    refine ⟨e.cs, rfl, hp, .inl ⟨rfl, _, rfl, ?_⟩⟩
    have hk1 : oA .i64 ki 1 = ((k + 1 : Nat) : Int) := by
      obtain ⟨rfl, rfl, rfl, rfl, rfl, rfl, rfl, rfl, rfl, rfl, rfl, rfl, rfl, rfl, rfl, rfl, rfl, rfl, rfl, rfl, rfl, rfl, rfl, rfl, rfl, rfl, rfl⟩ := Ops.mk.inj hO
      rw [← hki]
      exact w64 (by omega) (by omega)
    refine run_sound (E := E32 ⟨oW, oA, oS, oM, oBa, oBo, oBx, oBn, oE, oN, oL, oLe, oAnd, oOr, oNot, oBq, oSq, oMx, oMn, oC, oSz, oAd, oIx, oQu, oRe, oSl, oSr⟩ _) TEok hO Tm D32ok (PanicOk.lq (PanicOk.body _ _ _)) (Hp.le_refl _) 4000 _ _ ?_
    conv => arg 5; cbv
    simp only [Res.ok]
    refine ⟨fun h1 => ?_, fun h1 => ?_⟩
    · refine RetG.loop (RetG.pc TEok C32r rfl rfl rfl (fun _ => rfl) ⟨false, rfl, ?_⟩)
      simp only [Bool.false_eq_true, false_iff]
      rw [hm, hst]
      rintro ⟨h2, h3, -⟩
      change (oOr (oL e.term t) (oL 1099511627776 e.term)) = true at h1
      obtain ⟨rfl, rfl, rfl, rfl, rfl, rfl, rfl, rfl, rfl, rfl, rfl, rfl, rfl, rfl, rfl, rfl, rfl, rfl, rfl, rfl, rfl, rfl, rfl, rfl, rfl, rfl, rfl⟩ := Ops.mk.inj hO
      simp [Ops.std] at h1
      omega
    have hle : t ≤ e.term ∧ e.term ≤ 1099511627776 := by
      change (oOr (oL e.term t) (oL 1099511627776 e.term)) = false at h1
      obtain ⟨rfl, rfl, rfl, rfl, rfl, rfl, rfl, rfl, rfl, rfl, rfl, rfl, rfl, rfl, rfl, rfl, rfl, rfl, rfl, rfl, rfl, rfl, rfl, rfl, rfl, rfl, rfl⟩ := Ops.mk.inj hO
      simp [Ops.std] at h1
      omega
    rw [hk1]
    exact FinG.roundB [1, 3, 28, 29, 30] 1 (k + 1, e.term) ⟨by simp only; omega, by simp only; rw [hm, hst]; exact ⟨fun h => h.2.2, fun h => ⟨hle.1, hle.2, h⟩⟩⟩ (by show l.n - (k + 1) < l.n - k; omega) rfl rfl rfl rfl
  · have hge : ¬ ki < l.n := by
      rw [hnl]
      obtain ⟨rfl, rfl, rfl, rfl, rfl, rfl, rfl, rfl, rfl, rfl, rfl, rfl, rfl, rfl, rfl, rfl, rfl, rfl, rfl, rfl, rfl, rfl, rfl, rfl, rfl, rfl, rfl⟩ := Ops.mk.inj hO
      simpa [Ops.std] using hh
    refine FinG.leave rfl rfl ?_
    refine run_sound (E := E32 ⟨oW, oA, oS, oM, oBa, oBo, oBx, oBn, oE, oN, oL, oLe, oAnd, oOr, oNot, oBq, oSq, oMx, oMn, oC, oSz, oAd, oIx, oQu, oRe, oSl, oSr⟩ _) TEok hO Tm D32ok (PanicOk.body _ _ _) (Hp.le_refl _) 4000 _ _ ?_
    conv => arg 5; cbv
    simp only [Res.ok]
    refine RetG.pc TEok C32r rfl rfl rfl (fun _ => rfl) ⟨true, rfl, ?_⟩
    have hln := hl.1
    rw [hm, List.drop_eq_nil_of_le (by omega)]
    simp [mayE]
end Go.Sx
