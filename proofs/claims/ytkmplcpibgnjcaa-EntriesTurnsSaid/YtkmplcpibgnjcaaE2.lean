/- Contracts: the rows of the layer entries. -/
import Derived.Test.YtkmplcpibgnjcaaE1
namespace Go.Sx
open Go.Proofs Go.RowKit

theorem Entry.len (e : Entry) : e.cs.length = 14 := rfl
theorem Entry.lens {es : List Entry} : ∀ x ∈ es.map Entry.cs, x.length = 14 := fun x hx => by
  obtain ⟨e, _, rfl⟩ := List.mem_map.1 hx
  rfl
def flatE (es : List Entry) : List Value := (es.map Entry.cs).flatten
theorem flatE_append (a b : List Entry) : flatE (a ++ b) = flatE a ++ flatE b := by simp [flatE]
theorem flatE_one {es : List Entry} : ∀ u ∈ flatE es, u.oneCell' = true := fun u hu => by
  unfold flatE at hu
  rw [List.mem_flatten] at hu
  obtain ⟨x, hx, hu⟩ := hu
  obtain ⟨⟨t0, k0, d0, ⟨c0, c1, c2, c3, c4⟩, ⟨f0, f1, f2, f3, f4⟩, tw⟩, _, rfl⟩ := List.mem_map.1 hx
  simp only [Entry.cs, Joint.cs, Config.cs, List.cons_append, List.nil_append, List.mem_cons, List.not_mem_nil, or_false] at hu
  rcases hu with rfl | rfl | rfl | rfl | rfl | rfl | rfl | rfl | rfl | rfl | rfl | rfl | rfl | rfl <;> rfl

/-- a slice of entries -/
def SVok (H : Hp) (A : Option Addr) (n c : Nat) (es : List Entry) : Prop := n = es.length ∧ n ≤ c ∧ Row H 14 A (es.map Entry.cs)
theorem SVok.mono {H H' : Hp} {A : Option Addr} {n c : Nat} {es : List Entry} (h : SVok H A n c es) (hle : Hp.le H H') : SVok H' A n c es := ⟨h.1, h.2.1, h.2.2.mono hle⟩
theorem SVok.rw {H : Hp} {A : Option Addr} {n c : Nat} {es : List Entry} (h : SVok H A n c es) : Rw H 14 A n (flatE es) := by
  have := h.2.2.rw (by decide) Entry.lens
  rw [List.length_map, ← h.1] at this
  exact this
theorem SVok.of {H : Hp} {A : Option Addr} {n c : Nat} {es : List Entry} (h1 : n = es.length) (h2 : n ≤ c) (h : Rw H 14 A n (flatE es)) : SVok H A n c es := ⟨h1, h2, h.row Entry.lens (by decide)⟩

noncomputable def C61 : Code := fbody Try.f61
theorem C61b : Try.f61.body = some C61 := by kernel_rfl
theorem C61r : Try.f61.results.toList = [.tmp 2] := by kernel_rfl
def D61 : List (List Nat) := []
theorem D61ok : drOk C61 D61 = true := by kernel_rfl
noncomputable def E61 (O : Ops) (H : Hp) : Env := ⟨O, H, TE, C61, [.tmp 2], D61⟩
theorem Clone_pcr (A : Option Addr) (n c : Nat) (es : List Entry) (H : Hp) (h : SVok H A n c es) (hb : n ≤ 1048576) : PCR Try.prog 61 [.slice A n c] H fun H' Ro v => ∃ A' c', v = .slice A' n c' ∧ SVok H' A' n c' es ∧ OwnR Ro A' n c' 14 47 := by
  refine PCR.enter [.c (.v (.slice A n c))] Try.func61 C61b rfl 8 Try.ntmps61 (by simp) fun w hw => ?_
  refine ops_open fun oW oA oS oM oBa oBo oBx oBn oE oN oL oLe oAnd oOr oNot oBq oSq oMx oMn oC oSz oAd oIx oQu oRe oSl oSr hO => ?_
  refine run_sound (E := E61 ⟨oW, oA, oS, oM, oBa, oBo, oBx, oBn, oE, oN, oL, oLe, oAnd, oOr, oNot, oBq, oSq, oMx, oMn, oC, oSz, oAd, oIx, oQu, oRe, oSl, oSr⟩ H) TEok hO Tm D61ok (PanicOk.body _ _ _) (Hp.le_refl _) 4000 _ _ ?_
  conv => arg 5; cbv
  simp only [Res.ok]
  obtain ⟨hn, hc, hr⟩ := id h
  refine ⟨fun h1 => ?_, fun h1 => ?_⟩
  · refine RetG.pcr TEok C61r rfl rfl rfl (List.nil_sublist _) (fun _ => rfl) ?_
    obtain ⟨rfl, rfl, rfl, rfl, rfl, rfl, rfl, rfl, rfl, rfl, rfl, rfl, rfl, rfl, rfl, rfl, rfl, rfl, rfl, rfl, rfl, rfl, rfl, rfl, rfl, rfl, rfl⟩ := Ops.mk.inj hO
    have hA : A = none := by simpa [Ops.std] using h1
    subst hA
    have he : es = [] := by simpa using hr.nil
    subst he
    exact ⟨none, 0, by rw [hn]; rfl, ⟨hn, by rw [hn]; exact Nat.le_refl _, hr⟩, .inl ⟨hn, rfl, rfl⟩⟩
  · refine fun hit => ⟨[], rfl, fun b hb => ⟨_, rfl, ?_⟩⟩
    have hle : Hp.le H (H.add b 0 []) := Hp.le_add fun o _ => hb o
    refine run_sound (E := E61 ⟨oW, oA, oS, oM, oBa, oBo, oBx, oBn, oE, oN, oL, oLe, oAnd, oOr, oNot, oBq, oSq, oMx, oMn, oC, oSz, oAd, oIx, oQu, oRe, oSl, oSr⟩ (H.add b 0 [])) TEok hO Tm D61ok (PanicOk.body _ _ _) (Hp.le_refl _) 4000 _ _ ?_
    conv => arg 5; cbv
    simp only [Res.ok]
    refine fun hit => ⟨[], flatE es, Rw.nil, (h.mono hle).rw, flatE_one, Nat.le_refl _, by omega, fun hh => (by cases hh), fun h2 h3 => (by omega), fun A' c' G' hn' hle' hrw hc' => ?_⟩
    rw [Nat.zero_add] at hrw hc' ⊢
    obtain ⟨e1, e2, e3⟩ := hn'.same
    obtain ⟨Ro, hRo, hown⟩ := hn'.ownR0
    rw [Nat.zero_add] at hown
    refine ⟨_, rfl, ?_⟩
    refine run_sound (E := E61 ⟨oW, oA, oS, oM, oBa, oBo, oBx, oBn, oE, oN, oL, oLe, oAnd, oOr, oNot, oBq, oSq, oMx, oMn, oC, oSz, oAd, oIx, oQu, oRe, oSl, oSr⟩ G'.H) TEok hO Tm D61ok (PanicOk.body _ _ _) (Hp.le_refl _) 4000 _ _ ?_
    conv => arg 5; cbv
    simp only [Res.ok]
    exact RetG.pcr TEok C61r e1 e2 e3 hRo (fun _ => rfl) ⟨A', c', rfl, SVok.of hn hc' hrw, hown⟩
theorem Clone_pc (A : Option Addr) (n c : Nat) (es : List Entry) (H : Hp) (h : SVok H A n c es) (hb : n ≤ 1048576) : PC Try.prog 61 [.slice A n c] H fun H' v => ∃ A' c', v = .slice A' n c' ∧ SVok H' A' n c' es :=
  (Clone_pcr A n c es H h hb).pc.mono fun _ _ _ ⟨_, A', c', h1, h2, _⟩ => ⟨A', c', h1, h2⟩

theorem Addr.add_add (a : Addr) (m n : Nat) : (a.add m).add n = a.add (m + n) := by
  obtain ⟨b, o, s⟩ := a
  cases s <;> unfold Addr.add <;> by_cases h : m = 0 <;> by_cases h' : n = 0 <;> simp_all [Nat.add_assoc]
theorem SVok.slice {H : Hp} {A : Option Addr} {n c : Nat} {es : List Entry} (h : SVok H A n c es) {k : Int} (h1 : k ≤ n) :
    SVok H (if c = k.toNat then A else A.map (·.add (k.toNat * 14))) (n - k.toNat) (c - k.toNat) (es.drop k.toNat) := by
  obtain ⟨h2, h3, h4⟩ := h
  refine ⟨by rw [List.length_drop, h2], by omega, fun i x hx => ?_⟩
  rw [List.map_drop, List.getElem?_drop] at hx
  have hlt := (List.getElem?_eq_some_iff.1 hx).1
  rw [List.length_map] at hlt
  obtain ⟨ad, h5, h6, h7⟩ := h4 _ _ hx
  rw [if_neg (by omega), h5]
  refine ⟨_, rfl, h6, fun j v hv => ?_⟩
  rw [Addr.add_add, ← Nat.add_mul]
  exact h7 j v hv
theorem SVok.take {H : Hp} {A : Option Addr} {n c : Nat} {es : List Entry} (h : SVok H A n c es) {k : Int} (h0 : 0 ≤ k) (h1 : k ≤ n) : SVok H A k.toNat c (es.take k.toNat) := by
  obtain ⟨h2, h3, h4⟩ := h
  refine ⟨by rw [List.length_take]; omega, by omega, fun i x hx => ?_⟩
  rw [List.map_take, List.getElem?_take] at hx
  split at hx
  · exact h4 i x hx
  · cases hx

/-- Slice -/
def LV.cut (l : LV) (f : Int) : Int := if f > l.b then min (max (IntKind.i64.wrap (IntKind.i64.wrap (f - l.b) - 1)) 0) l.n else 0
def LV.slc (l : LV) (f m : Int) : List Entry := (l.es.drop (l.cut f).toNat).take (min (max m 0) ((l.n - (l.cut f).toNat : Nat) : Int)).toNat
noncomputable def C29 : Code := fbody Try.f29
theorem C29b : Try.f29.body = some C29 := by kernel_rfl
theorem C29r : Try.f29.results.toList = [.tmp 6] := by kernel_rfl
def D29 : List (List Nat) := []
theorem D29ok : drOk C29 D29 = true := by kernel_rfl
noncomputable def E29 (O : Ops) (H : Hp) : Env := ⟨O, H, TE, C29, [.tmp 6], D29⟩
theorem Slice_pcr (l : LV) (f m : Int) (H : Hp) (hl : l.ok H) (hb : l.n ≤ 1048576) : PCR Try.prog 29 [aggV l.cs, .int .i64 f, .int .i64 m] H fun H' Ro v => ∃ A' c', v = .slice A' (l.slc f m).length c' ∧ SVok H' A' (l.slc f m).length c' (l.slc f m) ∧ OwnR Ro A' (l.slc f m).length c' 14 47 := by
  obtain ⟨k, hk⟩ : ∃ k, l.cut f = k := ⟨_, rfl⟩
  have hkb : 0 ≤ k ∧ k ≤ l.n := by rw [← hk]; unfold LV.cut; split <;> omega
  obtain ⟨sl, hsl⟩ : ∃ sl, l.slc f m = sl := ⟨_, rfl⟩
  rw [hsl]
  unfold LV.slc at hsl
  rw [hk] at hsl
  unfold LV.cut at hk
  obtain ⟨b, bt, ⟨⟨a0, a1, a2, a3, a4⟩, ⟨b0, b1, b2, b3, b4⟩, two⟩, A, n, c, es⟩ := l
  obtain ⟨hn, hc, hr⟩ := hl
  simp only at hn hc hr hb hk hkb hsl
  have hs1 := SVok.slice (H := H) (A := A) (n := n) (c := c) (es := es) ⟨hn, hc, hr⟩ hkb.2
  refine PCR.enter [aggT (LV.cs ⟨b, bt, ⟨⟨a0, a1, a2, a3, a4⟩, ⟨b0, b1, b2, b3, b4⟩, two⟩, A, n, c, es⟩), .c (.v (.int .i64 f)), .c (.v (.int .i64 m))] Try.func29 C29b rfl 35 Try.ntmps29 (by simp) fun w hw => ?_
  refine ops_open fun oW oA oS oM oBa oBo oBx oBn oE oN oL oLe oAnd oOr oNot oBq oSq oMx oMn oC oSz oAd oIx oQu oRe oSl oSr hO => ?_
  refine run_sound (E := E29 ⟨oW, oA, oS, oM, oBa, oBo, oBx, oBn, oE, oN, oL, oLe, oAnd, oOr, oNot, oBq, oSq, oMx, oMn, oC, oSz, oAd, oIx, oQu, oRe, oSl, oSr⟩ H) TEok hO Tm D29ok (PanicOk.body _ _ _) (Hp.le_refl _) 4000 _ _ ?_
  conv => arg 5; cbv
  simp only [Res.ok]
  have rest : ∀ n1 : Nat, ∃ h, oMn (oMx m 0) (oC n1) = h ∧ 0 ≤ h ∧ h ≤ n1 ∧ h = min (max m 0) (n1 : Int) := fun n1 => by
    refine ⟨_, rfl, ?_⟩
    obtain ⟨rfl, rfl, rfl, rfl, rfl, rfl, rfl, rfl, rfl, rfl, rfl, rfl, rfl, rfl, rfl, rfl, rfl, rfl, rfl, rfl, rfl, rfl, rfl, rfl, rfl, rfl, rfl⟩ := Ops.mk.inj hO
    simp only [Ops.std]
    repeat' split
    all_goals omega
  refine ⟨fun h1 => ?_, fun h1 => ?_⟩
  · obtain ⟨k', hk'⟩ : ∃ k', oMn (oMx (oS .i64 (oS .i64 f b) 1) 0) (oC n) = k' := ⟨_, rfl⟩
    rw [hk']
    have e : k' = k := by
      obtain ⟨rfl, rfl, rfl, rfl, rfl, rfl, rfl, rfl, rfl, rfl, rfl, rfl, rfl, rfl, rfl, rfl, rfl, rfl, rfl, rfl, rfl, rfl, rfl, rfl, rfl, rfl, rfl⟩ := Ops.mk.inj hO
      rw [← hk', ← hk]
      have h1 : b < f := by simpa [Ops.std] using h1
      rw [if_pos h1]
      simp only [Ops.std]
      repeat' split
      all_goals omega
    subst e
    refine ⟨hkb.1, hkb.2, by show (n : Int) ≤ c; omega, fun A1 n1 c1 hA1 hn1 hc1 => ⟨_, rfl, ?_⟩⟩
    simp only [Option.getD_some, Option.getD_none, Int.toNat_natCast] at hA1 hn1 hc1
    rw [← hA1, ← hn1, ← hc1] at hs1
    rw [← hn1] at hsl
    have hn1' : n1 ≤ n := by omega
    clear hA1 hc1 hn1
    refine run_sound (E := E29 ⟨oW, oA, oS, oM, oBa, oBo, oBx, oBn, oE, oN, oL, oLe, oAnd, oOr, oNot, oBq, oSq, oMx, oMn, oC, oSz, oAd, oIx, oQu, oRe, oSl, oSr⟩ H) TEok hO Tm D29ok (PanicOk.body _ _ _) (Hp.le_refl _) 4000 _ _ ?_
    conv => arg 5; cbv
    simp only [Res.ok]
    obtain ⟨h, hh, hh0, hh1, he⟩ := rest n1
    rw [hh]
    rw [← he] at hsl
    have hs2 := SVok.take hs1 hh0 hh1
    rw [hsl] at hs2
    refine ⟨Int.le_refl _, hh0, by show h ≤ (c1 : Int); have := hs1.2.1; omega, fun A2 n2 c2 hA2 hn2 hc2 => ⟨_, rfl, ?_⟩⟩
    simp only [Option.getD_some, Option.getD_none, Int.toNat_zero, Nat.sub_zero] at hA2 hn2 hc2
    have hA2' : A2 = A1 := by rw [hA2]; split; rfl; cases A1 <;> simp [Addr.add]
    rw [← hA2', ← hn2, ← hc2] at hs2
    have hl2 : n2 = sl.length := hs2.1
    rw [← hl2]
    have hn2' : n2 ≤ 1048576 := by omega
    clear hA2 hn2 hc2 hA2' hs1 hl2
    refine run_sound (E := E29 ⟨oW, oA, oS, oM, oBa, oBo, oBx, oBn, oE, oN, oL, oLe, oAnd, oOr, oNot, oBq, oSq, oMx, oMn, oC, oSz, oAd, oIx, oQu, oRe, oSl, oSr⟩ H) TEok hO Tm D29ok (PanicOk.body _ _ _) (Hp.le_refl _) 4000 _ _ ?_
    conv => arg 5; cbv
    simp only [Res.ok]
    refine EvG.pcr Try.call61 (fun _ => rfl) (Clone_pcr A2 n2 c2 _ H hs2 hn2') ?_
    rintro H' Ro v hle ⟨A3, c3, rfl, hs3, hown⟩ -
    refine ⟨.t (.c (.v (.slice A3 n2 c3))), _, fun _ => rfl, rfl, ?_⟩
    refine run_sound (E := E29 ⟨oW, oA, oS, oM, oBa, oBo, oBx, oBn, oE, oN, oL, oLe, oAnd, oOr, oNot, oBq, oSq, oMx, oMn, oC, oSz, oAd, oIx, oQu, oRe, oSl, oSr⟩ H') TEok hO Tm D29ok (PanicOk.body _ _ _) (Hp.le_refl _) 4000 _ _ ?_
    conv => arg 5; cbv
    simp only [Res.ok]
    exact RetG.pcr TEok C29r rfl rfl rfl (List.sublist_append_left Ro _) (fun _ => rfl) ⟨A3, c3, rfl, hs3, hown⟩
  · have e : k = 0 := by
      obtain ⟨rfl, rfl, rfl, rfl, rfl, rfl, rfl, rfl, rfl, rfl, rfl, rfl, rfl, rfl, rfl, rfl, rfl, rfl, rfl, rfl, rfl, rfl, rfl, rfl, rfl, rfl, rfl⟩ := Ops.mk.inj hO
      have h1 : ¬ b < f := by simpa [Ops.std] using h1
      rw [← hk, if_neg h1]
    subst e
    refine ⟨hkb.1, hkb.2, by show (n : Int) ≤ c; omega, fun A1 n1 c1 hA1 hn1 hc1 => ⟨_, rfl, ?_⟩⟩
    simp only [Option.getD_some, Option.getD_none, Int.toNat_natCast] at hA1 hn1 hc1
    rw [← hA1, ← hn1, ← hc1] at hs1
    rw [← hn1] at hsl
    have hn1' : n1 ≤ n := by omega
    clear hA1 hc1 hn1
    refine run_sound (E := E29 ⟨oW, oA, oS, oM, oBa, oBo, oBx, oBn, oE, oN, oL, oLe, oAnd, oOr, oNot, oBq, oSq, oMx, oMn, oC, oSz, oAd, oIx, oQu, oRe, oSl, oSr⟩ H) TEok hO Tm D29ok (PanicOk.body _ _ _) (Hp.le_refl _) 4000 _ _ ?_
    conv => arg 5; cbv
    simp only [Res.ok]
    obtain ⟨h, hh, hh0, hh1, he⟩ := rest n1
    rw [hh]
    rw [← he] at hsl
    have hs2 := SVok.take hs1 hh0 hh1
    rw [hsl] at hs2
    refine ⟨Int.le_refl _, hh0, by show h ≤ (c1 : Int); have := hs1.2.1; omega, fun A2 n2 c2 hA2 hn2 hc2 => ⟨_, rfl, ?_⟩⟩
    simp only [Option.getD_some, Option.getD_none, Int.toNat_zero, Nat.sub_zero] at hA2 hn2 hc2
    have hA2' : A2 = A1 := by rw [hA2]; split; rfl; cases A1 <;> simp [Addr.add]
    rw [← hA2', ← hn2, ← hc2] at hs2
    have hl2 : n2 = sl.length := hs2.1
    rw [← hl2]
    have hn2' : n2 ≤ 1048576 := by omega
    clear hA2 hn2 hc2 hA2' hs1 hl2
    refine run_sound (E := E29 ⟨oW, oA, oS, oM, oBa, oBo, oBx, oBn, oE, oN, oL, oLe, oAnd, oOr, oNot, oBq, oSq, oMx, oMn, oC, oSz, oAd, oIx, oQu, oRe, oSl, oSr⟩ H) TEok hO Tm D29ok (PanicOk.body _ _ _) (Hp.le_refl _) 4000 _ _ ?_
    conv => arg 5; cbv
    simp only [Res.ok]
    refine EvG.pcr Try.call61 (fun _ => rfl) (Clone_pcr A2 n2 c2 _ H hs2 hn2') ?_
    rintro H' Ro v hle ⟨A3, c3, rfl, hs3, hown⟩ -
    refine ⟨.t (.c (.v (.slice A3 n2 c3))), _, fun _ => rfl, rfl, ?_⟩
    refine run_sound (E := E29 ⟨oW, oA, oS, oM, oBa, oBo, oBx, oBn, oE, oN, oL, oLe, oAnd, oOr, oNot, oBq, oSq, oMx, oMn, oC, oSz, oAd, oIx, oQu, oRe, oSl, oSr⟩ H') TEok hO Tm D29ok (PanicOk.body _ _ _) (Hp.le_refl _) 4000 _ _ ?_
    conv => arg 5; cbv
    simp only [Res.ok]
    exact RetG.pcr TEok C29r rfl rfl rfl (List.sublist_append_left Ro _) (fun _ => rfl) ⟨A3, c3, rfl, hs3, hown⟩
theorem Slice_pc (l : LV) (f m : Int) (H : Hp) (hl : l.ok H) (hb : l.n ≤ 1048576) : PC Try.prog 29 [aggV l.cs, .int .i64 f, .int .i64 m] H fun H' v => ∃ A' c', v = .slice A' (l.slc f m).length c' ∧ SVok H' A' (l.slc f m).length c' (l.slc f m) :=
  (Slice_pcr l f m H hl hb).pc.mono fun _ _ _ ⟨_, A', c', h1, h2, _⟩ => ⟨A', c', h1, h2⟩
end Go.Sx