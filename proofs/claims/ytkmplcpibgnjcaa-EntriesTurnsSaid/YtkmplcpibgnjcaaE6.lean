/- Contracts: Compact. -/
import Derived.Test.YtkmplcpibgnjcaaE4
import Derived.Test.YtkmplcpibgnjcaaE5
import Derived.Test.YtkmplcpibgnjcaaC2
namespace Go.Sx
open Go.Proofs Go.RowKit

def LV.fine (l : LV) : Prop := 0 ≤ l.b ∧ l.b ≤ 1099511627776 ∧ l.n ≤ 1048576
def In64 (i : Int) : Prop := -9223372036854775808 ≤ i ∧ i ≤ 9223372036854775807
theorem LV.at_some {l : LV} {i : Int} (hf : l.fine) (hi : In64 i) : l.at i = if l.b < i ∧ i ≤ l.b + l.n then ((l.es[(i - l.b - 1).toNat]?).getD .zero, true) else (.zero, false) := by
  obtain ⟨h1, h2, h3⟩ := hf
  obtain ⟨h4, h5⟩ := hi
  unfold LV.at
  by_cases h : i ≤ l.b
  · rw [if_pos h, if_neg (by omega)]
  · have e : IntKind.i64.wrap (IntKind.i64.wrap (i - l.b) - 1) = i - l.b - 1 := by
      rw [w64 (n := i - l.b) (by omega) (by omega)]
      exact w64 (by omega) (by omega)
    rw [if_neg h, e]
    by_cases h6 : i ≤ l.b + l.n
    · rw [if_pos (by omega), if_pos (by omega)]
    · rw [if_neg (by omega), if_neg (by omega)]
theorem LV.term_is {l : LV} {i : Int} (hf : l.fine) (hi : In64 i) : (l.term i).2 = decide (l.b ≤ i ∧ i ≤ l.b + l.n) := by
  unfold LV.term
  rw [LV.at_some hf hi]
  by_cases h : i = l.b
  · rw [if_pos h]
    have : l.b ≤ i ∧ i ≤ l.b + l.n := by omega
    simp [this]
  · rw [if_neg h]
    by_cases h2 : l.b < i ∧ i ≤ l.b + l.n
    · rw [if_pos h2]
      have : l.b ≤ i ∧ i ≤ l.b + l.n := by omega
      simp [this]
    · rw [if_neg h2]
      have : ¬ (l.b ≤ i ∧ i ≤ l.b + l.n) := by omega
      simp [this]
theorem SVok.nil {H : Hp} {c : Nat} : SVok H none 0 c [] := ⟨rfl, Nat.zero_le _, fun i x hx => by simp at hx⟩

def CompactR (l : LV) (i : Int) (H' : Hp) (v : Value) : Prop :=
  if (l.term i).2 = true then ∃ l' : LV, v = .tuple #[aggV l'.cs, .int .i64 0] ∧ l'.ok H' ∧ l'.b = i ∧ l'.bt = (l.term i).1 ∧ l'.j = confOf (l.es.take (i - l.b).toNat) l.j ∧ l'.es = l.es.drop (i - l.b).toNat
  else ∃ l' : LV, v = .tuple #[aggV l'.cs, .int .i64 1] ∧ l' = ⟨0, 0, .zero, none, 0, 0, []⟩
def CompactRR (l : LV) (i : Int) (H' : Hp) (Ro : List ORow) (v : Value) : Prop :=
  if (l.term i).2 = true then ∃ l' : LV, v = .tuple #[aggV l'.cs, .int .i64 0] ∧ l'.ok H' ∧ l'.b = i ∧ l'.bt = (l.term i).1 ∧ l'.j = confOf (l.es.take (i - l.b).toNat) l.j ∧ l'.es = l.es.drop (i - l.b).toNat ∧ OwnR Ro l'.A l'.n l'.c 14 47
  else ∃ l' : LV, v = .tuple #[aggV l'.cs, .int .i64 1] ∧ l' = ⟨0, 0, .zero, none, 0, 0, []⟩
noncomputable def C14 : Code := fbody Try.f14
theorem C14b : Try.f14.body = some C14 := by kernel_rfl
theorem C14r : Try.f14.results.toList = [.cell 4 32, .tmp 5] := by kernel_rfl
def D14 : List (List Nat) := [[0, 1, 1, 1, 1, 1]]
theorem D14ok : drOk C14 D14 = true := by kernel_rfl
noncomputable def E14 (O : Ops) (H : Hp) : Env := ⟨O, H, TE, C14, [.cell 4 32, .tmp 5], D14⟩
theorem Compact_pcr (l : LV) (i : Int) (H : Hp) (hl : l.ok H) (hf : l.fine) (hi : In64 i) : PCR Try.prog 14 [aggV l.cs, .int .i64 i] H (CompactRR l i) := by
  have hT := Term_pc l i H hl
  have his := LV.term_is hf hi
  unfold CompactRR
  obtain ⟨⟨t, is⟩, hti⟩ : ∃ t, l.term i = t := ⟨_, rfl⟩
  rw [hti] at hT his ⊢
  simp only at hT his ⊢
  have hF := fun (H1 : Hp) (hle : Hp.le H H1) (h0 : 0 ≤ i - l.b) (h1 : i - l.b ≤ l.n) => Front_pc l (i - l.b) none 0 0 [] H1 (hl.mono hle) SVok.nil h0 h1 (by obtain ⟨_, _, h⟩ := hf; omega)
  have hsl := fun (h1 : i - l.b ≤ l.n) => SVok.slice (H := H) (A := l.A) (n := l.n) (c := l.c) (es := l.es) hl h1
  obtain ⟨hf1, hf2, hf3⟩ := hf
  obtain ⟨hi1, hi2⟩ := hi
  obtain ⟨b, bt, ⟨⟨a0, a1, a2, a3, a4⟩, ⟨b0, b1, b2, b3, b4⟩, two⟩, A, n, c, es⟩ := l
  obtain ⟨hn, hc, hr⟩ := hl
  simp only at hn hc hr hf1 hf2 hf3 his hF hsl ⊢
  refine PCR.enter [aggT (LV.cs ⟨b, bt, ⟨⟨a0, a1, a2, a3, a4⟩, ⟨b0, b1, b2, b3, b4⟩, two⟩, A, n, c, es⟩), .c (.v (.int .i64 i))] Try.func14 C14b rfl 36 Try.ntmps14 (by simp) fun w hw => ?_
  refine ops_open fun oW oA oS oM oBa oBo oBx oBn oE oN oL oLe oAnd oOr oNot oBq oSq oMx oMn oC oSz oAd oIx oQu oRe oSl oSr hO => ?_
  have hk : b ≤ i → oS .i64 i b = i - b := by
    obtain ⟨rfl, rfl, rfl, rfl, rfl, rfl, rfl, rfl, rfl, rfl, rfl, rfl, rfl, rfl, rfl, rfl, rfl, rfl, rfl, rfl, rfl, rfl, rfl, rfl, rfl, rfl, rfl⟩ := Ops.mk.inj hO
    intro h
    exact w64 (by omega) (by omega)
  refine run_sound (E := E14 ⟨oW, oA, oS, oM, oBa, oBo, oBx, oBn, oE, oN, oL, oLe, oAnd, oOr, oNot, oBq, oSq, oMx, oMn, oC, oSz, oAd, oIx, oQu, oRe, oSl, oSr⟩ H) TEok hO Tm D14ok (PanicOk.body _ _ _) (Hp.le_refl _) 4000 _ _ ?_
  conv => arg 5; cbv
  simp only [Res.ok]
  refine EvG.pure Try.call17 (fun _ => rfl) hT ?_
  rintro H1 v hle1 rfl
  refine ⟨.tup [.c (.v (.int .i64 t)), .c (.v (.bool is))], _, fun _ => ⟨_, rfl, rfl⟩, rfl, ?_⟩
  cases is with
  | false =>
    refine run_sound (E := E14 ⟨oW, oA, oS, oM, oBa, oBo, oBx, oBn, oE, oN, oL, oLe, oAnd, oOr, oNot, oBq, oSq, oMx, oMn, oC, oSz, oAd, oIx, oQu, oRe, oSl, oSr⟩ H1) TEok hO Tm D14ok (PanicOk.body _ _ _) (Hp.le_refl _) 4000 _ _ ?_
    conv => arg 5; cbv
    simp only [Res.ok]
    have hn1 : oNot false = true := by
      obtain ⟨rfl, rfl, rfl, rfl, rfl, rfl, rfl, rfl, rfl, rfl, rfl, rfl, rfl, rfl, rfl, rfl, rfl, rfl, rfl, rfl, rfl, rfl, rfl, rfl, rfl, rfl, rfl⟩ := Ops.mk.inj hO
      rfl
    refine ⟨fun _ => ?_, fun hh => (by rw [hn1] at hh; cases hh)⟩
    refine RetG.pcr TEok C14r rfl rfl rfl (List.nil_sublist _) (fun _ => rfl) ?_
    rw [if_neg (by simp)]
    exact ⟨_, rfl, rfl⟩
  | true =>
    have hb : b ≤ i ∧ i ≤ b + n := by simpa using his.symm
    obtain ⟨k, hkk⟩ : ∃ k, i - b = k := ⟨_, rfl⟩
    rw [hkk] at hF hsl hk ⊢
    have hk := hk hb.1
    refine run_sound (E := E14 ⟨oW, oA, oS, oM, oBa, oBo, oBx, oBn, oE, oN, oL, oLe, oAnd, oOr, oNot, oBq, oSq, oMx, oMn, oC, oSz, oAd, oIx, oQu, oRe, oSl, oSr⟩ H1) TEok hO Tm D14ok (PanicOk.body _ _ _) (Hp.le_refl _) 4000 _ _ ?_
    conv => arg 5; cbv
    simp only [Res.ok]
    have hn1 : oNot true = false := by
      obtain ⟨rfl, rfl, rfl, rfl, rfl, rfl, rfl, rfl, rfl, rfl, rfl, rfl, rfl, rfl, rfl, rfl, rfl, rfl, rfl, rfl, rfl, rfl, rfl, rfl, rfl, rfl, rfl⟩ := Ops.mk.inj hO
      rfl
    refine ⟨fun hh => (by rw [hn1] at hh; cases hh), fun _ => ?_⟩
    rw [hk]
    refine EvG.pure Try.call60 (fun _ => rfl) (hF H1 hle1 (by omega) (by omega)) ?_
    rintro H2 v hle2 ⟨lf, rfl, hlf, -, -, hj, hes⟩
    have hC := Conf_pc lf H2 hlf (by rw [hlf.1, hes]; simp; omega)
    rw [hes, hj, List.append_nil] at hC
    obtain ⟨cf, hcf⟩ : ∃ cf, confOf (es.take k.toNat) ⟨⟨a0, a1, a2, a3, a4⟩, ⟨b0, b1, b2, b3, b4⟩, two⟩ = cf := ⟨_, rfl⟩
    rw [hcf] at hC ⊢
    obtain ⟨fb, fbt, ⟨⟨u0, u1, u2, u3, u4⟩, ⟨v0, v1, v2, v3, v4⟩, ftwo⟩, fA, fn, fc, fes⟩ := lf
    refine ⟨.t (aggT (LV.cs ⟨fb, fbt, ⟨⟨u0, u1, u2, u3, u4⟩, ⟨v0, v1, v2, v3, v4⟩, ftwo⟩, fA, fn, fc, fes⟩)), _, fun _ => aggT_den _ _, rfl, ?_⟩
    refine run_sound (E := E14 ⟨oW, oA, oS, oM, oBa, oBo, oBx, oBn, oE, oN, oL, oLe, oAnd, oOr, oNot, oBq, oSq, oMx, oMn, oC, oSz, oAd, oIx, oQu, oRe, oSl, oSr⟩ H2) TEok hO Tm D14ok (PanicOk.body _ _ _) (Hp.le_refl _) 4000 _ _ ?_
    conv => arg 5; cbv
    simp only [Res.ok]
    refine EvG.pure Try.call16 (fun _ => rfl) hC ?_
    rintro H3 v hle3 rfl
    obtain ⟨⟨p0, p1, p2, p3, p4⟩, ⟨q0, q1, q2, q3, q4⟩, ctwo⟩ := cf
    refine ⟨.t (aggT (Joint.cs ⟨⟨p0, p1, p2, p3, p4⟩, ⟨q0, q1, q2, q3, q4⟩, ctwo⟩)), _, fun _ => aggT_den _ _, rfl, ?_⟩
    refine run_sound (E := E14 ⟨oW, oA, oS, oM, oBa, oBo, oBx, oBn, oE, oN, oL, oLe, oAnd, oOr, oNot, oBq, oSq, oMx, oMn, oC, oSz, oAd, oIx, oQu, oRe, oSl, oSr⟩ H3) TEok hO Tm D14ok (PanicOk.body _ _ _) (Hp.le_refl _) 4000 _ _ ?_
    conv => arg 5; cbv
    simp only [Res.ok]
    have hsl := hsl (by omega)
    refine ⟨by show 0 ≤ k; omega, by show k ≤ (n : Int); omega, by show (n : Int) ≤ c; omega, fun A1 n1 c1 hA1 hn1 hc1 => ⟨_, rfl, ?_⟩⟩
    simp only [Option.getD_some, Option.getD_none, Int.toNat_natCast] at hA1 hn1 hc1
    rw [← hA1, ← hn1, ← hc1] at hsl
    have hn1' : n1 ≤ 1048576 := by omega
    clear hA1 hn1 hc1
    refine run_sound (E := E14 ⟨oW, oA, oS, oM, oBa, oBo, oBx, oBn, oE, oN, oL, oLe, oAnd, oOr, oNot, oBq, oSq, oMx, oMn, oC, oSz, oAd, oIx, oQu, oRe, oSl, oSr⟩ H3) TEok hO Tm D14ok (PanicOk.body _ _ _) (Hp.le_refl _) 4000 _ _ ?_
    conv => arg 5; cbv
    simp only [Res.ok]
    refine EvG.pcr Try.call61 (fun _ => rfl) (Clone_pcr A1 n1 c1 _ H3 (hsl.mono (Hp.le_trans hle1 (Hp.le_trans hle2 hle3))) hn1') ?_
    rintro H4 Ro v hle4 ⟨A2, c2, rfl, hs2, hown⟩ -
    refine ⟨.t (.c (.v (.slice A2 n1 c2))), _, fun _ => rfl, rfl, ?_⟩
    refine run_sound (E := E14 ⟨oW, oA, oS, oM, oBa, oBo, oBx, oBn, oE, oN, oL, oLe, oAnd, oOr, oNot, oBq, oSq, oMx, oMn, oC, oSz, oAd, oIx, oQu, oRe, oSl, oSr⟩ H4) TEok hO Tm D14ok (PanicOk.body _ _ _) (Hp.le_refl _) 4000 _ _ ?_
    conv => arg 5; cbv
    simp only [Res.ok]
    refine RetG.pcr TEok C14r rfl rfl rfl (List.sublist_append_left Ro _) (fun _ => rfl) ?_
    rw [if_pos trivial]
    exact ⟨⟨i, t, ⟨⟨p0, p1, p2, p3, p4⟩, ⟨q0, q1, q2, q3, q4⟩, ctwo⟩, A2, n1, c2, es.drop k.toNat⟩, rfl, hs2, rfl, rfl, rfl, rfl, hown⟩
theorem Compact_pc (l : LV) (i : Int) (H : Hp) (hl : l.ok H) (hf : l.fine) (hi : In64 i) : PC Try.prog 14 [aggV l.cs, .int .i64 i] H (CompactR l i) :=
  (Compact_pcr l i H hl hf hi).pc.mono fun _ _ _ ⟨_, h⟩ => by
    unfold CompactRR at h
    unfold CompactR
    split at h
    · rename_i e
      rw [if_pos e]
      obtain ⟨l', h1, h2, h3, h4, h5, h6, _⟩ := h
      exact ⟨l', h1, h2, h3, h4, h5, h6⟩
    · rename_i e
      rw [if_neg e]
      exact h
end Go.Sx
