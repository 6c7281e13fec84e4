/- Contracts: are two lists of entries the same; two logs. -/
import Derived.Test.YtkmplcpibgnjcaaE9
namespace Go.Sx
open Go.Proofs Go.RowKit

theorem bytes_beq (x y : ByteArray) : (x.toList == y.toList) = true ↔ x = y := by
  rw [beq_iff_eq, ByteArray.toList_eq, ByteArray.toList_eq]
  obtain ⟨⟨x⟩⟩ := x
  obtain ⟨⟨y⟩⟩ := y
  simp
theorem Config.ext' {a b : Config} : a = b ↔ a.voters = b.voters ∧ a.witnesses = b.witnesses ∧ a.learners = b.learners ∧ a.elect = b.elect ∧ a.commit = b.commit := by
  obtain ⟨_, _, _, _, _⟩ := a
  obtain ⟨_, _, _, _, _⟩ := b
  simp
theorem Joint.ext' {a b : Joint} : a = b ↔ a.old = b.old ∧ a.new = b.new ∧ a.two = b.two := by
  obtain ⟨_, _, _⟩ := a
  obtain ⟨_, _, _⟩ := b
  simp
theorem Entry.ext' {a b : Entry} : a = b ↔ a.term = b.term ∧ a.kind = b.kind ∧ a.data = b.data ∧ a.conf = b.conf := by
  obtain ⟨_, _, _, _⟩ := a
  obtain ⟨_, _, _, _⟩ := b
  simp
theorem row_at {H : Hp} {A : Option Addr} {n c : Nat} {es : List Entry} {k : Int} (hs : SVok H A n c es) (h0 : 0 ≤ k) (h1 : k < n) :
    ∃ e ad, es[k.toNat]? = some e ∧ A = some ad ∧ ∀ pa, pa = ad.add (k.toNat * 14) → ∀ (j : Nat) (v : Value), e.cs[j]? = some v → hat H pa j = some v :=
  row_get hs.2.2 h0 (by rw [← hs.1]; exact h1)
noncomputable def C36 : Code := fbody Try.f36
theorem C36b : Try.f36.body = some C36 := by kernel_rfl
theorem C36r : Try.f36.results.toList = [.tmp 4] := by kernel_rfl
def D36 : List (List Nat) := [[0, 0, 0, 1, 0, 0, 1, 0, 1, 1]]
theorem D36ok : drOk C36 D36 = true := by kernel_rfl
noncomputable def E36 (O : Ops) (H : Hp) : Env := ⟨O, H, TE, C36, [.tmp 4], D36⟩
theorem Alike_pc (A1 A2 : Option Addr) (n1 n2 c1 c2 : Nat) (es1 es2 : List Entry) (H : Hp) (h1 : SVok H A1 n1 c1 es1) (h2 : SVok H A2 n2 c2 es2) (hb : n1 ≤ 1048576) :
    PC Try.prog 36 [.slice A1 n1 c1, .slice A2 n2 c2] H fun _ v => ∃ b, v = .bool b ∧ (b = true ↔ es1 = es2) := by
  refine PC.enter [.c (.v (.slice A1 n1 c1)), .c (.v (.slice A2 n2 c2))] Try.func36 C36b rfl 26 Try.ntmps36 (by simp) fun w hw => ?_
  refine ops_open fun oW oA oS oM oBa oBo oBx oBn oE oN oL oLe oAnd oOr oNot oBq oSq oMx oMn oC oSz oAd oIx oQu oRe oSl oSr hO => ?_
  refine run_sound (E := E36 ⟨oW, oA, oS, oM, oBa, oBo, oBx, oBn, oE, oN, oL, oLe, oAnd, oOr, oNot, oBq, oSq, oMx, oMn, oC, oSz, oAd, oIx, oQu, oRe, oSl, oSr⟩ _) TEok hO Tm D36ok (PanicOk.body _ _ _) (Hp.le_refl _) 4000 _ _ ?_
  conv => arg 5; cbv
  simp only [Res.ok]
  refine ⟨fun hh => ?_, fun hh => ?_⟩
  · refine RetG.pc TEok C36r rfl rfl rfl (fun _ => rfl) ⟨false, rfl, ?_⟩
    simp only [Bool.false_eq_true, false_iff]
    intro e
    subst e
    have : n1 = n2 := h1.1.trans h2.1.symm
    subst this
    obtain ⟨rfl, rfl, rfl, rfl, rfl, rfl, rfl, rfl, rfl, rfl, rfl, rfl, rfl, rfl, rfl, rfl, rfl, rfl, rfl, rfl, rfl, rfl, rfl, rfl, rfl, rfl, rfl⟩ := Ops.mk.inj hO
    simp [Ops.std] at hh
  have hn : n1 = n2 := by
    obtain ⟨rfl, rfl, rfl, rfl, rfl, rfl, rfl, rfl, rfl, rfl, rfl, rfl, rfl, rfl, rfl, rfl, rfl, rfl, rfl, rfl, rfl, rfl, rfl, rfl, rfl, rfl, rfl⟩ := Ops.mk.inj hO
    simp [Ops.std] at hh
    omega
  subst hn
  refine LoopG.mk [0, 1, 5] (fun k : Nat => k ≤ n1 ∧ ∀ j, j < k → es1[j]? = es2[j]?) (fun k => { n := 26, t := [(0, SlV A1 n1 c1), (1, SlV A2 n1 c2), (5, iV k)], g := [], bx := [] }) (fun _ => Gh.start w H) (fun k => n1 - k) 0 rfl ⟨_, rfl⟩ ⟨Nat.zero_le _, fun j hj => by omega⟩ rfl rfl ?_
  rintro k ⟨hk, hj⟩
  obtain ⟨ki, hki⟩ : ∃ ki : Int, (k : Int) = ki := ⟨_, rfl⟩
  simp only [hki]
  refine run_sound (E := E36 ⟨oW, oA, oS, oM, oBa, oBo, oBx, oBn, oE, oN, oL, oLe, oAnd, oOr, oNot, oBq, oSq, oMx, oMn, oC, oSz, oAd, oIx, oQu, oRe, oSl, oSr⟩ _) TEok hO Tm D36ok (PanicOk.lq (PanicOk.body _ _ _)) (Hp.le_refl _) 4000 _ _ ?_
  conv => arg 5; cbv
  simp only [Res.ok]
  refine ⟨fun hh => ?_, fun hh => ?_⟩
  · have hlt : ki < n1 := by
      obtain ⟨rfl, rfl, rfl, rfl, rfl, rfl, rfl, rfl, rfl, rfl, rfl, rfl, rfl, rfl, rfl, rfl, rfl, rfl, rfl, rfl, rfl, rfl, rfl, rfl, rfl, rfl, rfl⟩ := Ops.mk.inj hO
      simpa [Ops.std] using hh
    obtain ⟨e1, ad1, g1, k1, q1⟩ := row_at h1 (k := ki) (by omega) hlt
    obtain ⟨e2, ad2, g2, k2, q2⟩ := row_at h2 (k := ki) (by omega) hlt
    have hkn : ki.toNat = k := by omega
    refine ⟨by omega, hlt, ad1, k1, fun pa hpa => ⟨_, rfl, ?_⟩⟩
    have hp := q1 pa hpa
    refine run_sound (E := E36 ⟨oW, oA, oS, oM, oBa, oBo, oBx, oBn, oE, oN, oL, oLe, oAnd, oOr, oNot, oBq, oSq, oMx, oMn, oC, oSz, oAd, oIx, oQu, oRe, oSl, oSr⟩ _) TEok hO Tm D36ok (PanicOk.lq (PanicOk.body _ _ _)) (Hp.le_refl _) 4000 _ _ ?_
    conv => arg 5; cbv
    simp only [Res.ok]
    refine ⟨e1.cs, rfl, hp, .inl ⟨rfl, _, rfl, ?_⟩⟩
    refine run_sound (E := E36 ⟨oW, oA, oS, oM, oBa, oBo, oBx, oBn, oE, oN, oL, oLe, oAnd, oOr, oNot, oBq, oSq, oMx, oMn, oC, oSz, oAd, oIx, oQu, oRe, oSl, oSr⟩ _) TEok hO Tm D36ok (PanicOk.lq (PanicOk.body _ _ _)) (Hp.le_refl _) 4000 _ _ ?_
    conv => arg 5; cbv
    simp only [Res.ok]
    refine ⟨by omega, hlt, ad2, k2, fun pa2 hpa2 => ⟨_, rfl, ?_⟩⟩
    have hp2 := q2 pa2 hpa2
    refine run_sound (E := E36 ⟨oW, oA, oS, oM, oBa, oBo, oBx, oBn, oE, oN, oL, oLe, oAnd, oOr, oNot, oBq, oSq, oMx, oMn, oC, oSz, oAd, oIx, oQu, oRe, oSl, oSr⟩ _) TEok hO Tm D36ok (PanicOk.lq (PanicOk.body _ _ _)) (Hp.le_refl _) 4000 _ _ ?_
    conv => arg 5; cbv
    simp only [Res.ok]
    refine ⟨e2.cs, rfl, hp2, .inl ⟨rfl, _, rfl, ?_⟩⟩
    refine run_sound (E := E36 ⟨oW, oA, oS, oM, oBa, oBo, oBx, oBn, oE, oN, oL, oLe, oAnd, oOr, oNot, oBq, oSq, oMx, oMn, oC, oSz, oAd, oIx, oQu, oRe, oSl, oSr⟩ _) TEok hO Tm D36ok (PanicOk.lq (PanicOk.body _ _ _)) (Hp.le_refl _) 4000 _ _ ?_
    conv => arg 5; cbv
    simp only [Res.ok]
    refine ⟨fun hq => ?_, fun hq => ?_⟩
    · refine RetG.loop (RetG.pc TEok C36r rfl rfl rfl (fun _ => rfl) ⟨false, rfl, ?_⟩)
      simp only [Bool.false_eq_true, false_iff]
      intro e
      subst e
      rw [g1] at g2
      cases g2
      obtain ⟨rfl, rfl, rfl, rfl, rfl, rfl, rfl, rfl, rfl, rfl, rfl, rfl, rfl, rfl, rfl, rfl, rfl, rfl, rfl, rfl, rfl, rfl, rfl, rfl, rfl, rfl, rfl⟩ := Ops.mk.inj hO
      simp [Ops.std] at hq
    · have hee : e1 = e2 := by
        rw [Entry.ext', Joint.ext', Config.ext', Config.ext']
        obtain ⟨rfl, rfl, rfl, rfl, rfl, rfl, rfl, rfl, rfl, rfl, rfl, rfl, rfl, rfl, rfl, rfl, rfl, rfl, rfl, rfl, rfl, rfl, rfl, rfl, rfl, rfl, rfl⟩ := Ops.mk.inj hO
        simp [Ops.std, -beq_iff_eq, bytes_beq] at hq
        simp at hq
        simp [hq]
      subst hee
      have hk1 : oA .i64 ki 1 = ((k + 1 : Nat) : Int) := by
        obtain ⟨rfl, rfl, rfl, rfl, rfl, rfl, rfl, rfl, rfl, rfl, rfl, rfl, rfl, rfl, rfl, rfl, rfl, rfl, rfl, rfl, rfl, rfl, rfl, rfl, rfl, rfl, rfl⟩ := Ops.mk.inj hO
        rw [← hki]
        have := h1.1
        exact w64 (by omega) (by omega)
      rw [hk1]
      refine FinG.round [0, 1, 5] (k + 1) ⟨by omega, fun j hjk => ?_⟩ (by show n1 - (k + 1) < n1 - k; omega) rfl rfl
      rcases Nat.lt_succ_iff_lt_or_eq.1 hjk with h | h
      · exact hj j h
      · rw [h, ← hkn, g1, g2]
  · have hge : ¬ ki < n1 := by
      obtain ⟨rfl, rfl, rfl, rfl, rfl, rfl, rfl, rfl, rfl, rfl, rfl, rfl, rfl, rfl, rfl, rfl, rfl, rfl, rfl, rfl, rfl, rfl, rfl, rfl, rfl, rfl, rfl⟩ := Ops.mk.inj hO
      simpa [Ops.std] using hh
    refine FinG.leave rfl rfl ?_
    refine run_sound (E := E36 ⟨oW, oA, oS, oM, oBa, oBo, oBx, oBn, oE, oN, oL, oLe, oAnd, oOr, oNot, oBq, oSq, oMx, oMn, oC, oSz, oAd, oIx, oQu, oRe, oSl, oSr⟩ _) TEok hO Tm D36ok (PanicOk.body _ _ _) (Hp.le_refl _) 4000 _ _ ?_
    conv => arg 5; cbv
    simp only [Res.ok]
    refine RetG.pc TEok C36r rfl rfl rfl (fun _ => rfl) ⟨true, rfl, ?_⟩
    simp only [true_iff]
    refine List.ext_getElem? fun j => ?_
    by_cases h : j < k
    · exact hj j h
    · have l1 := h1.1
      have l2 := h2.1
      rw [List.getElem?_eq_none (by omega), List.getElem?_eq_none (by omega)]

def eqJ (a b : Joint) : Bool := a.old.voters == b.old.voters && (a.old.witnesses == b.old.witnesses && (a.old.learners == b.old.learners && (a.old.elect == b.old.elect && (a.old.commit == b.old.commit &&
  (a.new.voters == b.new.voters && (a.new.witnesses == b.new.witnesses && (a.new.learners == b.new.learners && (a.new.elect == b.new.elect && (a.new.commit == b.new.commit && (a.two == b.two && true))))))))))
theorem eqJ_iff {a b : Joint} : eqJ a b = true ↔ a = b := by
  rw [Joint.ext', Config.ext', Config.ext']
  simp [eqJ, and_assoc]
def eqE (a b : Entry) : Bool := a.term == b.term && (a.kind == b.kind && (a.data.toList == b.data.toList && eqJ a.conf b.conf))
theorem eqE_iff {a b : Entry} : eqE a b = true ↔ a = b := by
  rw [Entry.ext']
  unfold eqE
  rw [Bool.and_eq_true, Bool.and_eq_true, Bool.and_eq_true, bytes_beq, eqJ_iff, beq_iff_eq, beq_iff_eq]
def SameL (l m : LV) : Prop := l.b = m.b ∧ l.bt = m.bt ∧ l.j = m.j ∧ l.es = m.es
noncomputable def C19 : Code := fbody Try.f19
theorem C19b : Try.f19.body = some C19 := by kernel_rfl
theorem C19r : Try.f19.results.toList = [.tmp 4] := by kernel_rfl
def D19 : List (List Nat) := []
theorem D19ok : drOk C19 D19 = true := by kernel_rfl
noncomputable def E19 (O : Ops) (H : Hp) : Env := ⟨O, H, TE, C19, [.tmp 4], D19⟩
theorem Same_pc (l m : LV) (H : Hp) (hl : l.ok H) (hm : m.ok H) (hb : l.n ≤ 1048576) :
    PC Try.prog 19 [aggV l.cs, aggV m.cs] H fun _ v => ∃ b, v = .bool b ∧ (b = true ↔ SameL l m) := by
  have hA := fun (H1 : Hp) (hle : Hp.le H H1) => Alike_pc l.A m.A l.n m.n l.c m.c l.es m.es H1 ((SVok.lv hl).mono hle) ((SVok.lv hm).mono hle) hb
  refine PC.enter [aggT l.cs, aggT m.cs] Try.func19 C19b rfl 29 Try.ntmps19 (by simp) fun w hw => ?_
  refine ops_open fun oW oA oS oM oBa oBo oBx oBn oE oN oL oLe oAnd oOr oNot oBq oSq oMx oMn oC oSz oAd oIx oQu oRe oSl oSr hO => ?_
  refine run_sound (E := E19 ⟨oW, oA, oS, oM, oBa, oBo, oBx, oBn, oE, oN, oL, oLe, oAnd, oOr, oNot, oBq, oSq, oMx, oMn, oC, oSz, oAd, oIx, oQu, oRe, oSl, oSr⟩ _) TEok hO Tm D19ok (PanicOk.body _ _ _) (Hp.le_refl _) 4000 _ _ ?_
  conv => arg 5; cbv
  simp only [Res.ok]
  refine ⟨fun hh => ?_, fun hh => ?_⟩
  · refine RetG.pc TEok C19r rfl rfl rfl (fun _ => rfl) ⟨false, rfl, ?_⟩
    simp only [Bool.false_eq_true, false_iff]
    rintro ⟨e1, e2, e3, e4⟩
    obtain ⟨rfl, rfl, rfl, rfl, rfl, rfl, rfl, rfl, rfl, rfl, rfl, rfl, rfl, rfl, rfl, rfl, rfl, rfl, rfl, rfl, rfl, rfl, rfl, rfl, rfl, rfl, rfl⟩ := Ops.mk.inj hO
    simp only [Ops.std] at hh
    change ((l.b != m.b) || (l.bt != m.bt) || !(eqJ l.j m.j)) = true at hh
    rw [e1, e2, e3, eqJ_iff.2 rfl] at hh
    simp at hh
  · have he : l.b = m.b ∧ l.bt = m.bt ∧ l.j = m.j := by
      obtain ⟨rfl, rfl, rfl, rfl, rfl, rfl, rfl, rfl, rfl, rfl, rfl, rfl, rfl, rfl, rfl, rfl, rfl, rfl, rfl, rfl, rfl, rfl, rfl, rfl, rfl, rfl, rfl⟩ := Ops.mk.inj hO
      simp only [Ops.std] at hh
      change ((l.b != m.b) || (l.bt != m.bt) || !(eqJ l.j m.j)) = false at hh
      simp only [Bool.or_eq_false_iff, bne_eq_false_iff_eq, Bool.not_eq_false', eqJ_iff] at hh
      exact ⟨hh.1.1, hh.1.2, hh.2⟩
    refine EvG.pure Try.call36 (fun _ => rfl) (hA _ (Hp.le_refl _)) ?_
    rintro H1 v hle1 ⟨b, rfl, hb⟩
    refine ⟨.t (.c (.v (.bool b))), _, fun _ => (by first | exact rfl | exact ⟨_, rfl, rfl⟩ | exact aggT_den _ _), rfl, ?_⟩
    refine run_sound (E := E19 ⟨oW, oA, oS, oM, oBa, oBo, oBx, oBn, oE, oN, oL, oLe, oAnd, oOr, oNot, oBq, oSq, oMx, oMn, oC, oSz, oAd, oIx, oQu, oRe, oSl, oSr⟩ _) TEok hO Tm D19ok (PanicOk.body _ _ _) (Hp.le_refl _) 4000 _ _ ?_
    conv => arg 5; cbv
    simp only [Res.ok]
    refine RetG.pc TEok C19r rfl rfl rfl (fun _ => rfl) ⟨b, rfl, ?_⟩
    rw [hb]
    exact ⟨fun h => ⟨he.1, he.2.1, he.2.2, h⟩, fun h => h.2.2.2⟩
theorem Same_true (l m : LV) (H : Hp) (hl : l.ok H) (hm : m.ok H) (hb : l.n ≤ 1048576) (h : SameL l m) : PC Try.prog 19 [aggV l.cs, aggV m.cs] H fun _ v => v = .bool true :=
  (Same_pc l m H hl hm hb).mono fun _ _ _ ⟨b, hv, hb⟩ => by rw [hv, hb.2 h]
end Go.Sx
