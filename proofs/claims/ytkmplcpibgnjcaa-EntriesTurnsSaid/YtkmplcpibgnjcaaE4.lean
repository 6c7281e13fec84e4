/- Contracts: front. -/
import Derived.Test.YtkmplcpibgnjcaaE3
namespace Go.Sx
open Go.Proofs Go.RowKit

theorem SVok.lv {H : Hp} {l : LV} (h : l.ok H) : SVok H l.A l.n l.c l.es := h
noncomputable def C60 : Code := fbody Try.f60
theorem C60b : Try.f60.body = some C60 := by kernel_rfl
theorem C60r : Try.f60.results.toList = [.cell 6 32] := by kernel_rfl
def D60 : List (List Nat) := []
theorem D60ok : drOk C60 D60 = true := by kernel_rfl
noncomputable def E60 (O : Ops) (H : Hp) : Env := ⟨O, H, TE, C60, [.cell 6 32], D60⟩
theorem Front_pcr (l : LV) (k : Int) (A2 : Option Addr) (n2 c2 : Nat) (es2 : List Entry) (H : Hp) (hl : l.ok H) (h2 : SVok H A2 n2 c2 es2) (h0 : 0 ≤ k) (h1 : k ≤ l.n) (hb : k + n2 ≤ 1048576) :
    PCR Try.prog 60 [aggV l.cs, .int .i64 k, .slice A2 n2 c2] H fun H' Ro v => ∃ l' : LV, v = aggV l'.cs ∧ l'.ok H' ∧ l'.b = l.b ∧ l'.bt = l.bt ∧ l'.j = l.j ∧ l'.es = l.es.take k.toNat ++ es2 ∧ OwnR Ro l'.A l'.n l'.c 14 47 := by
  obtain ⟨b, bt, ⟨⟨a0, a1, a2, a3, a4⟩, ⟨b0, b1, b2, b3, b4⟩, two⟩, A, n, c, es⟩ := l
  obtain ⟨hn, hc, hr⟩ := hl
  simp only at hn hc hr h1
  have hs := SVok.take (H := H) ⟨hn, hc, hr⟩ h0 h1
  refine PCR.enter [aggT (LV.cs ⟨b, bt, ⟨⟨a0, a1, a2, a3, a4⟩, ⟨b0, b1, b2, b3, b4⟩, two⟩, A, n, c, es⟩), .c (.v (.int .i64 k)), .c (.v (.slice A2 n2 c2))] Try.func60 C60b rfl 16 Try.ntmps60 (by simp) fun w hw => ?_
  refine ops_open fun oW oA oS oM oBa oBo oBx oBn oE oN oL oLe oAnd oOr oNot oBq oSq oMx oMn oC oSz oAd oIx oQu oRe oSl oSr hO => ?_
  refine run_sound (E := E60 ⟨oW, oA, oS, oM, oBa, oBo, oBx, oBn, oE, oN, oL, oLe, oAnd, oOr, oNot, oBq, oSq, oMx, oMn, oC, oSz, oAd, oIx, oQu, oRe, oSl, oSr⟩ H) TEok hO Tm D60ok (PanicOk.body _ _ _) (Hp.le_refl _) 4000 _ _ ?_
  conv => arg 5; cbv
  simp only [Res.ok]
  refine ⟨Int.le_refl _, h0, by show k ≤ (c : Int); omega, fun A1 n1 c1 hA1 hn1 hc1 => ⟨_, rfl, ?_⟩⟩
  simp only [Option.getD_some, Option.getD_none, Int.toNat_zero, Nat.sub_zero] at hA1 hn1 hc1
  have hA1' : A1 = A := by rw [hA1]; split; rfl; cases A <;> simp [Addr.add]
  rw [← hA1', ← hn1, ← hc1] at hs
  have hb' : n1 + n2 ≤ 1048576 := by omega
  have he : es.take k.toNat = es.take n1 := by rw [hn1]
  rw [he]
  clear hA1 hn1 hc1 hA1' he
  refine run_sound (E := E60 ⟨oW, oA, oS, oM, oBa, oBo, oBx, oBn, oE, oN, oL, oLe, oAnd, oOr, oNot, oBq, oSq, oMx, oMn, oC, oSz, oAd, oIx, oQu, oRe, oSl, oSr⟩ H) TEok hO Tm D60ok (PanicOk.body _ _ _) (Hp.le_refl _) 4000 _ _ ?_
  conv => arg 5; cbv
  simp only [Res.ok]
  refine fun hit => ⟨[.slice A1 n1 c1, .slice A2 n2 c2], rfl, fun bb hbb => ⟨_, rfl, ?_⟩⟩
  have hle : Hp.le H (H.add bb 0 [.slice A1 n1 c1, .slice A2 n2 c2]) := Hp.le_add fun o _ => hbb o
  have hg0 : hat (H.add bb 0 [.slice A1 n1 c1, .slice A2 n2 c2]) ⟨bb, 0, none⟩ 0 = some (.slice A1 n1 c1) := Hp.add_at (H := H) (b := bb) (o := 0) (vs := [.slice A1 n1 c1, .slice A2 n2 c2]) (j := 0) rfl
  have hg1 : hat (H.add bb 0 [.slice A1 n1 c1, .slice A2 n2 c2]) ⟨bb, 0, none⟩ 1 = some (.slice A2 n2 c2) := Hp.add_at (H := H) (b := bb) (o := 0) (vs := [.slice A1 n1 c1, .slice A2 n2 c2]) (j := 1) rfl
  refine run_sound (E := E60 ⟨oW, oA, oS, oM, oBa, oBo, oBx, oBn, oE, oN, oL, oLe, oAnd, oOr, oNot, oBq, oSq, oMx, oMn, oC, oSz, oAd, oIx, oQu, oRe, oSl, oSr⟩ (H.add bb 0 [.slice A1 n1 c1, .slice A2 n2 c2])) TEok hO Tm D60ok (PanicOk.body _ _ _) (Hp.le_refl _) 4000 _ _ ?_
  conv => arg 5; cbv
  simp only [Res.ok]
  refine EvG.pcr Try.call86 (fun _ => rfl) (Concat_pcr ⟨bb, 0, none⟩ A1 A2 n1 n2 c1 c2 (es.take n1) es2 _ hg0 hg1 (hs.mono hle) (h2.mono hle) hb') ?_
  rintro H' Ro v hle' ⟨A', n', c', rfl, hs', hown⟩ -
  refine ⟨.t (.c (.v (.slice A' n' c'))), _, fun _ => rfl, rfl, ?_⟩
  refine run_sound (E := E60 ⟨oW, oA, oS, oM, oBa, oBo, oBx, oBn, oE, oN, oL, oLe, oAnd, oOr, oNot, oBq, oSq, oMx, oMn, oC, oSz, oAd, oIx, oQu, oRe, oSl, oSr⟩ H') TEok hO Tm D60ok (PanicOk.body _ _ _) (Hp.le_refl _) 4000 _ _ ?_
  conv => arg 5; cbv
  simp only [Res.ok]
  refine RetG.pcr TEok C60r rfl rfl rfl (List.sublist_append_left Ro _) (fun _ => rfl) ⟨⟨b, bt, ⟨⟨a0, a1, a2, a3, a4⟩, ⟨b0, b1, b2, b3, b4⟩, two⟩, A', n', c', es.take n1 ++ es2⟩, rfl, hs', rfl, rfl, rfl, rfl, hown⟩
theorem Front_pc (l : LV) (k : Int) (A2 : Option Addr) (n2 c2 : Nat) (es2 : List Entry) (H : Hp) (hl : l.ok H) (h2 : SVok H A2 n2 c2 es2) (h0 : 0 ≤ k) (h1 : k ≤ l.n) (hb : k + n2 ≤ 1048576) :
    PC Try.prog 60 [aggV l.cs, .int .i64 k, .slice A2 n2 c2] H fun H' v => ∃ l' : LV, v = aggV l'.cs ∧ l'.ok H' ∧ l'.b = l.b ∧ l'.bt = l.bt ∧ l'.j = l.j ∧ l'.es = l.es.take k.toNat ++ es2 :=
  (Front_pcr l k A2 n2 c2 es2 H hl h2 h0 h1 hb).pc.mono fun _ _ _ ⟨_, l', h1, h2, h3, h4, h5, h6, _⟩ => ⟨l', h1, h2, h3, h4, h5, h6⟩
theorem Front_pcr' (l : LV) (k : Int) (A2 : Option Addr) (n2 c2 : Nat) (es2 : List Entry) (H : Hp) (hl : l.ok H) (h2 : SVok H A2 n2 c2 es2) (h0 : 0 ≤ k) (h1 : k ≤ l.n) (hb : k + n2 ≤ 1048576) :
    PCR Try.prog 60 [aggV l.cs, .int .i64 k, .slice A2 n2 c2] H fun H' Ro v => ∃ A' n' c', v = aggV (logCs l.b l.bt l.j A' n' c') ∧ SVok H' A' n' c' (l.es.take k.toNat ++ es2) ∧ OwnR Ro A' n' c' 14 47 :=
  (Front_pcr l k A2 n2 c2 es2 H hl h2 h0 h1 hb).mono fun H' Ro v _ ⟨⟨b, bt, j, A', n', c', es'⟩, hv, hok, e1, e2, e3, e4, e5⟩ => by
    simp only at e1 e2 e3 e4 e5
    exact ⟨A', n', c', by rw [hv, ← e1, ← e2, ← e3]; rfl, e4 ▸ hok, e5⟩
theorem Front_pc' (l : LV) (k : Int) (A2 : Option Addr) (n2 c2 : Nat) (es2 : List Entry) (H : Hp) (hl : l.ok H) (h2 : SVok H A2 n2 c2 es2) (h0 : 0 ≤ k) (h1 : k ≤ l.n) (hb : k + n2 ≤ 1048576) :
    PC Try.prog 60 [aggV l.cs, .int .i64 k, .slice A2 n2 c2] H fun H' v => ∃ A' n' c', v = aggV (logCs l.b l.bt l.j A' n' c') ∧ SVok H' A' n' c' (l.es.take k.toNat ++ es2) :=
  (Front_pc l k A2 n2 c2 es2 H hl h2 h0 h1 hb).mono fun H' v _ ⟨⟨b, bt, j, A', n', c', es'⟩, hv, hok, e1, e2, e3, e4⟩ => by
    simp only at e1 e2 e3 e4
    exact ⟨A', n', c', by rw [hv, ← e1, ← e2, ← e3]; rfl, e4 ▸ hok⟩
end Go.Sx
