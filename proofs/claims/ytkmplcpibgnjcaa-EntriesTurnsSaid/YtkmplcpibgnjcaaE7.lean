/- Contracts: Merge. -/
import Derived.Test.YtkmplcpibgnjcaaE6
import Derived.Test.YtkmplcpibgnjcaaSxK
namespace Go.Sx
open Go.Proofs Go.RowKit

/-- the first entry whose term is not the log's -/
def mism (l : LV) (p : Int) : Nat → List Entry → Option Nat
  | _, [] => none
  | k, e :: r => if (l.term (p + 1 + k)).2 = true ∧ (l.term (p + 1 + k)).1 = e.term then mism l p (k + 1) r else some k
def mergeBad (l : LV) (prev term : Int) (es : List Entry) : Prop :=
  prev > l.b + l.n ∨ prev < 0 ∨ (prev ≥ l.b ∧ ¬ ((l.term prev).2 = true ∧ (l.term prev).1 = term)) ∨ (prev < l.b ∧ (es.length : Int) < l.b - prev)
def mergeEs (l : LV) (prev : Int) (es : List Entry) : List Entry :=
  match mism l (max prev l.b) 0 (es.drop (l.b - prev).toNat) with
  | none => l.es
  | some k => l.es.take ((max prev l.b) - l.b + k).toNat ++ (es.drop (l.b - prev).toNat).drop k
theorem mergeEs_hi {l : LV} {prev : Int} {es : List Entry} (h : l.b ≤ prev) : mergeEs l prev es = match mism l prev 0 es with | none => l.es | some k => l.es.take (prev - l.b + k).toNat ++ es.drop k := by
  unfold mergeEs
  rw [show max prev l.b = prev by omega, show (l.b - prev).toNat = 0 by omega]
  rfl
theorem mergeEs_lo {l : LV} {prev : Int} {es : List Entry} (h : prev < l.b) : mergeEs l prev es = match mism l l.b 0 (es.drop (l.b - prev).toNat) with | none => l.es | some k => l.es.take (l.b - l.b + k).toNat ++ (es.drop (l.b - prev).toNat).drop k := by
  unfold mergeEs
  rw [show max prev l.b = l.b by omega]
def SameBut (l l' : LV) (es : List Entry) : Prop := l'.b = l.b ∧ l'.bt = l.bt ∧ l'.j = l.j ∧ l'.es = es
def MergeR (l : LV) (prev term : Int) (es : List Entry) (H' : Hp) (v : Value) : Prop :=
  (mergeBad l prev term es ∧ ∃ l' : LV, v = .tuple #[aggV l'.cs, .int .i64 0, .bool false] ∧ l'.ok H' ∧ SameBut l l' l.es) ∨
  (¬ mergeBad l prev term es ∧ ∃ l' : LV, v = .tuple #[aggV l'.cs, .int .i64 (prev + es.length), .bool true] ∧ l'.ok H' ∧ SameBut l l' (mergeEs l prev es))
def MergeRR (l : LV) (prev term : Int) (es : List Entry) (H' : Hp) (Ro : List ORow) (v : Value) : Prop :=
  (mergeBad l prev term es ∧ ∃ l' : LV, v = .tuple #[aggV l'.cs, .int .i64 0, .bool false] ∧ l'.ok H' ∧ SameBut l l' l.es ∧ OwnR Ro l'.A l'.n l'.c 14 47) ∨
  (¬ mergeBad l prev term es ∧ ∃ l' : LV, v = .tuple #[aggV l'.cs, .int .i64 (prev + es.length), .bool true] ∧ l'.ok H' ∧ SameBut l l' (mergeEs l prev es) ∧ OwnR Ro l'.A l'.n l'.c 14 47)
theorem LV.lastW_eq {l : LV} (hf : l.fine) : l.lastW = l.b + l.n := by
  obtain ⟨h1, h2, h3⟩ := hf
  exact w64 (by omega) (by omega)
noncomputable def C18 : Code := fbody Try.f18
theorem C18b : Try.f18.body = some C18 := by kernel_rfl
theorem C18r : Try.f18.results.toList = [.cell 8 32, .tmp 9, .tmp 10] := by kernel_rfl
def D18 : List (List Nat) := [[0, 0, 1, 1, 1, 0, 0, 1, 1, 0, 0, 1, 0, 1, 1, 1, 1, 1, 1]]
theorem D18ok : drOk C18 D18 = true := by kernel_rfl
noncomputable def E18 (O : Ops) (H : Hp) : Env := ⟨O, H, TE, C18, [.cell 8 32, .tmp 9, .tmp 10], D18⟩
theorem Merge_pcr (l : LV) (prev term : Int) (A2 : Option Addr) (n2 c2 : Nat) (es2 : List Entry) (H : Hp) (hl : l.ok H) (hf : l.fine) (h2 : SVok H A2 n2 c2 es2) (hp : In64 prev) (hb : l.n + n2 ≤ 1048576) :
    PCR Try.prog 18 [aggV l.cs, .int .i64 prev, .int .i64 term, .slice A2 n2 c2] H (MergeRR l prev term es2) := by
  have hTp := fun (H1 : Hp) (hle : Hp.le H H1) (i : Int) => Term_pc l i H1 (hl.mono hle)
  have hL := fun (H1 : Hp) => Last_pc l H1
  rw [LV.lastW_eq hf] at hL
  have hF0 := Front_pcr' l l.n none 0 0 [] H hl SVok.nil (by omega) (by omega) (by obtain ⟨_, _, h⟩ := hf; omega)
  rw [Int.toNat_natCast, hl.1, List.take_length, List.append_nil, ← hl.1] at hF0
  obtain ⟨lw, hlw⟩ : ∃ lw, l.b + l.n = lw := ⟨_, rfl⟩
  rw [hlw] at hL
  have hbad1 : lw < prev ∨ prev < 0 → mergeBad l prev term es2 := fun h => by
    unfold mergeBad
    rcases h with h | h
    · left; omega
    · right; left; exact h
  have hbadR := fun (H' : Hp) (hb : mergeBad l prev term es2) (Ro : List ORow) (A' : Option Addr) (n' c' : Nat) (hs : SVok H' A' n' c' l.es) (hw : OwnR Ro A' n' c' 14 47) =>
    (show MergeRR l prev term es2 H' Ro (.tuple #[aggV (logCs l.b l.bt l.j A' n' c'), .int .i64 0, .bool false]) from .inl ⟨hb, ⟨l.b, l.bt, l.j, A', n', c', l.es⟩, rfl, hs, ⟨rfl, rfl, rfl, rfl⟩, hw⟩)
  obtain ⟨⟨t, is⟩, hti⟩ : ∃ t, l.term prev = t := ⟨_, rfl⟩
  have hbad2 : l.b ≤ prev → ¬ (is = true ∧ t = term) → mergeBad l prev term es2 := fun h1 h2 => by
    unfold mergeBad
    rw [hti]
    exact .inr (.inr (.inl ⟨h1, h2⟩))
  have hbad3 : prev < l.b → (n2 : Int) < l.b - prev → mergeBad l prev term es2 := fun h1 h3 => by
    unfold mergeBad
    rw [← h2.1]
    exact .inr (.inr (.inr ⟨h1, h3⟩))
  have hgood : ¬ (lw < prev ∨ prev < 0) → (l.b ≤ prev → is = true ∧ t = term) → ¬ (prev < l.b ∧ (n2 : Int) < l.b - prev) → ¬ mergeBad l prev term es2 := fun h1 h3 h4 h5 => by
    unfold mergeBad at h5
    rw [hti, ← h2.1] at h5
    rcases h5 with h5 | h5 | ⟨h5, h6⟩ | h5
    · exact h1 (.inl (by omega))
    · exact h1 (.inr h5)
    · exact h6 (h3 h5)
    · exact h4 h5
  have hresM := fun (hg : ¬ mergeBad l prev term es2) (H' : Hp) (Ro : List ORow) (A' : Option Addr) (n' c' : Nat) (es' : List Entry) (he : es' = mergeEs l prev es2) (hs : SVok H' A' n' c' es') (hw : OwnR Ro A' n' c' 14 47) =>
    (show MergeRR l prev term es2 H' Ro (.tuple #[aggV (logCs l.b l.bt l.j A' n' c'), .int .i64 (prev + es2.length), .bool true]) from .inr ⟨hg, ⟨l.b, l.bt, l.j, A', n', c', es'⟩, rfl, hs, ⟨rfl, rfl, rfl, he⟩, hw⟩)
  rw [← h2.1] at hresM
  obtain ⟨l0, hl0⟩ : ∃ l0, l0 = l := ⟨_, rfl⟩
  rw [← hl0] at hTp ⊢
  rw [hl0]
  obtain ⟨b, bt, ⟨⟨a0, a1, a2, a3, a4⟩, ⟨b0, b1, b2, b3, b4⟩, two⟩, A, n, c, es⟩ := l
  refine PCR.enter [aggT (LV.cs ⟨b, bt, ⟨⟨a0, a1, a2, a3, a4⟩, ⟨b0, b1, b2, b3, b4⟩, two⟩, A, n, c, es⟩), .c (.v (.int .i64 prev)), .c (.v (.int .i64 term)), .c (.v (.slice A2 n2 c2))] Try.func18 C18b rfl 122 Try.ntmps18 (by simp) fun w hw => ?_
  refine ops_open fun oW oA oS oM oBa oBo oBx oBn oE oN oL oLe oAnd oOr oNot oBq oSq oMx oMn oC oSz oAd oIx oQu oRe oSl oSr hO => ?_
  have hcn : oC n = n := by
    obtain ⟨rfl, rfl, rfl, rfl, rfl, rfl, rfl, rfl, rfl, rfl, rfl, rfl, rfl, rfl, rfl, rfl, rfl, rfl, rfl, rfl, rfl, rfl, rfl, rfl, rfl, rfl, rfl⟩ := Ops.mk.inj hO
    rfl
  have loop : ∀ (fA : Option Addr) (fn fc : Nat) (p last : Int) (A3 : Option Addr) (n3 c3 : Nat) (es3 : List Entry) (H4 : Hp) (RR : List ORow) (st : St), b ≤ p → p ≤ b + n → n + n3 ≤ 1048576 → Hp.le H H4 → SVok H4 A3 n3 c3 es3 → SVok H4 fA fn fc es → OwnR RR fA fn fc 14 47 →
      (∀ H' Ro A' n' c' es', es' = (match mism l0 p 0 es3 with | none => es | some k => es.take (p - b + k).toNat ++ es3.drop k) → SVok H' A' n' c' es' → OwnR Ro A' n' c' 14 47 →
        MergeRR l0 prev term es2 H' Ro (.tuple #[aggV (logCs b bt ⟨⟨a0, a1, a2, a3, a4⟩, ⟨b0, b1, b2, b3, b4⟩, two⟩ A' n' c'), .int .i64 last, .bool true])) →
      st.n = 122 → keepT [1, 3, 4, 8, 9, 11, 83, 84, 85] st.t = [(1, iV p), (3, SlV A3 n3 c3), (4, .t (.c (.p 0 0))), (8, .t (.c (.p 1 0))), (9, iV last), (11, .t (.c (.p 2 0))), (83, SlV A3 n3 c3), (84, iV (oC n3)), (85, iV 0)] →
      st.bx = [(LV.cs ⟨b, bt, ⟨⟨a0, a1, a2, a3, a4⟩, ⟨b0, b1, b2, b3, b4⟩, two⟩, A, n, c, es⟩).map .v, zLog.map .v, (LV.cs ⟨b, bt, ⟨⟨a0, a1, a2, a3, a4⟩, ⟨b0, b1, b2, b3, b4⟩, two⟩, fA, fn, fc, es⟩).map .v] →
      LoopG Try.prog C18 (bodyPost Try.prog Try.f18 (PCRpost w H (MergeRR l0 prev term es2))) { w0 := w, M := fun _ => False, H := H4, H0 := H, R := RR } [0, 0, 1, 0, 1, 1, 1, 1, 1, 1] [It.blk 0, It.code [1, 1, 1, 1, 1, 1, 1]] st := by
    intro fA fn fc p last A3 n3 c3 es3 H4 RR st hp1 hp2 hn3 hle4 hs3 hsf hfo hres hst1 hst2 hst3
    refine LoopG.mk [1, 3, 4, 8, 9, 11, 83, 84, 85] (fun x : Nat × Hp => x.1 ≤ n3 ∧ Hp.le H4 x.2 ∧ p + x.1 ≤ b + n ∧ mism l0 p 0 es3 = mism l0 p x.1 (es3.drop x.1))
      (fun x => ⟨122, [(1, iV p), (3, SlV A3 n3 c3), (4, .t (.c (.p 0 0))), (8, .t (.c (.p 1 0))), (9, iV last), (11, .t (.c (.p 2 0))), (83, SlV A3 n3 c3), (84, iV (oC n3)), (85, iV x.1)], [],
        [(LV.cs ⟨b, bt, ⟨⟨a0, a1, a2, a3, a4⟩, ⟨b0, b1, b2, b3, b4⟩, two⟩, A, n, c, es⟩).map .v, zLog.map .v, (LV.cs ⟨b, bt, ⟨⟨a0, a1, a2, a3, a4⟩, ⟨b0, b1, b2, b3, b4⟩, two⟩, fA, fn, fc, es⟩).map .v]⟩)
      (fun x => { w0 := w, M := fun _ => False, H := x.2, H0 := H, R := RR }) (fun x => n3 - x.1) (0, H4) rfl ⟨_, rfl⟩ ⟨Nat.zero_le _, Hp.le_refl _, by simpa using hp2, rfl⟩ (by rw [hst1, hst2, hst3]; rfl) rfl ?_
    rintro ⟨k, H5⟩ ⟨hk, hle5, hpk, hm⟩
    simp only at hk hle5 hpk hm
    obtain ⟨ki, hki⟩ : ∃ ki : Int, (k : Int) = ki := ⟨_, rfl⟩
    simp only [hki]
    refine run_sound (E := E18 ⟨oW, oA, oS, oM, oBa, oBo, oBx, oBn, oE, oN, oL, oLe, oAnd, oOr, oNot, oBq, oSq, oMx, oMn, oC, oSz, oAd, oIx, oQu, oRe, oSl, oSr⟩ H5) TEok hO Tm D18ok (PanicOk.lq (PanicOk.body _ _ _)) (Hp.le_refl _) 4000 _ _ ?_
    conv => arg 5; cbv
    simp only [Res.ok]
    refine ⟨fun h1 => ?_, fun h1 => ?_⟩
    · have hlt : k < n3 := by
        have h1 := h1
        obtain ⟨rfl, rfl, rfl, rfl, rfl, rfl, rfl, rfl, rfl, rfl, rfl, rfl, rfl, rfl, rfl, rfl, rfl, rfl, rfl, rfl, rfl, rfl, rfl, rfl, rfl, rfl, rfl⟩ := Ops.mk.inj hO
        have h1 : ki < (n3 : Int) := by simpa [Ops.std] using h1
        omega
      obtain ⟨e, ad, he, rfl, hat⟩ := row_get (k := ki) (hs3.mono hle5).2.2 (by omega) (by rw [← hs3.1]; omega)
      have hkn : ki.toNat = k := by omega
      rw [hkn] at he
      refine ⟨by omega, by omega, ad, rfl, fun pa hpa => ⟨_, rfl, ?_⟩⟩
      have hc5 := hat pa hpa
      obtain ⟨t5, k5, d5, ⟨x0, x1, x2, x3, x4⟩, ⟨y0, y1, y2, y3, y4⟩, tw⟩ := e
      refine run_sound (E := E18 ⟨oW, oA, oS, oM, oBa, oBo, oBx, oBn, oE, oN, oL, oLe, oAnd, oOr, oNot, oBq, oSq, oMx, oMn, oC, oSz, oAd, oIx, oQu, oRe, oSl, oSr⟩ H5) TEok hO Tm D18ok (PanicOk.lq (PanicOk.body _ _ _)) (Hp.le_refl _) 4000 _ _ ?_
      conv => arg 5; cbv
      simp only [Res.ok]
      refine ⟨_, rfl, hc5, .inl ⟨rfl, _, rfl, ?_⟩⟩
      refine run_sound (E := E18 ⟨oW, oA, oS, oM, oBa, oBo, oBx, oBn, oE, oN, oL, oLe, oAnd, oOr, oNot, oBq, oSq, oMx, oMn, oC, oSz, oAd, oIx, oQu, oRe, oSl, oSr⟩ H5) TEok hO Tm D18ok (PanicOk.lq (PanicOk.body _ _ _)) (Hp.le_refl _) 4000 _ _ ?_
      conv => arg 5; cbv
      simp only [Res.ok]
      have hfb := hf
      obtain ⟨g1, g2, g3⟩ := hfb
      simp only at g1 g2 g3
      have hii : oA .i64 (oA .i64 p 1) ki = p + 1 + ki := by
        obtain ⟨rfl, rfl, rfl, rfl, rfl, rfl, rfl, rfl, rfl, rfl, rfl, rfl, rfl, rfl, rfl, rfl, rfl, rfl, rfl, rfl, rfl, rfl, rfl, rfl, rfl, rfl, rfl⟩ := Ops.mk.inj hO
        show IntKind.i64.wrap (IntKind.i64.wrap (p + 1) + ki) = p + 1 + ki
        rw [w64 (n := p + 1) (by omega) (by omega)]
        exact w64 (by omega) (by omega)
      rw [hii]
      obtain ⟨⟨t6, is6⟩, h6⟩ : ∃ t, l0.term (p + 1 + ki) = t := ⟨_, rfl⟩
      have hT := hTp H5 (Hp.le_trans hle4 hle5) (p + 1 + ki)
      rw [h6, hl0] at hT
      obtain ⟨ii, hi0⟩ : ∃ ii, p + 1 + ki = ii := ⟨_, rfl⟩
      rw [hi0] at hT ⊢
      refine EvG.pure Try.call17 (fun _ => rfl) hT ?_
      rintro H6 v hle6 rfl
      refine ⟨.tup [.c (.v (.int .i64 t6)), .c (.v (.bool is6))], _, fun _ => ⟨_, rfl, rfl⟩, rfl, ?_⟩
      have hdrop : es3.drop k = ⟨t5, k5, d5, ⟨x0, x1, x2, x3, x4⟩, ⟨y0, y1, y2, y3, y4⟩, tw⟩ :: es3.drop (k + 1) := by
        obtain ⟨h7, h8⟩ := List.getElem?_eq_some_iff.1 he
        rw [← h8]
        exact List.drop_eq_getElem_cons h7
      have hst : ∀ (e : Entry) (r : List Entry), mism l0 p k (e :: r) = if (l0.term (p + 1 + (k : Int))).2 = true ∧ (l0.term (p + 1 + (k : Int))).1 = e.term then mism l0 p (k + 1) r else some k := fun _ _ => rfl
      rw [hdrop, hst, hki, h6] at hm
      simp only at hm
      refine run_sound (E := E18 ⟨oW, oA, oS, oM, oBa, oBo, oBx, oBn, oE, oN, oL, oLe, oAnd, oOr, oNot, oBq, oSq, oMx, oMn, oC, oSz, oAd, oIx, oQu, oRe, oSl, oSr⟩ H6) TEok hO Tm D18ok (PanicOk.lq (PanicOk.body _ _ _)) (Hp.le_refl _) 4000 _ _ ?_
      conv => arg 5; cbv
      simp only [Res.ok]
      refine ⟨fun h7 => ?_, fun h7 => ?_⟩
      · have h7 : ¬ (is6 = true ∧ t6 = t5) := by
          obtain ⟨rfl, rfl, rfl, rfl, rfl, rfl, rfl, rfl, rfl, rfl, rfl, rfl, rfl, rfl, rfl, rfl, rfl, rfl, rfl, rfl, rfl, rfl, rfl, rfl, rfl, rfl, rfl⟩ := Ops.mk.inj hO
          revert h7
          cases is6 <;> simp [Ops.std]
        rw [if_neg h7] at hm
        have hsl := SVok.slice (k := ki) ((hs3.mono hle5).mono hle6) (by omega)
        refine ⟨by show 0 ≤ ki; omega, by show ki ≤ (n3 : Int); omega, by show (n3 : Int) ≤ c3; have := hs3.2.1; omega, fun A1 n1 c1 hA1 hn1 hc1 => ⟨_, rfl, ?_⟩⟩
        simp only [Option.getD_some, Option.getD_none, Int.toNat_natCast] at hA1 hn1 hc1
        rw [← hA1, ← hn1, ← hc1] at hsl
        have hn1' : n1 ≤ n3 := by omega
        clear hA1 hn1 hc1
        refine run_sound (E := E18 ⟨oW, oA, oS, oM, oBa, oBo, oBx, oBn, oE, oN, oL, oLe, oAnd, oOr, oNot, oBq, oSq, oMx, oMn, oC, oSz, oAd, oIx, oQu, oRe, oSl, oSr⟩ H6) TEok hO Tm D18ok (PanicOk.lq (PanicOk.body _ _ _)) (Hp.le_refl _) 4000 _ _ ?_
        conv => arg 5; cbv
        simp only [Res.ok]
        have hq : oA .i64 (oS .i64 p b) ki = p - b + ki := by
          obtain ⟨rfl, rfl, rfl, rfl, rfl, rfl, rfl, rfl, rfl, rfl, rfl, rfl, rfl, rfl, rfl, rfl, rfl, rfl, rfl, rfl, rfl, rfl, rfl, rfl, rfl, rfl, rfl⟩ := Ops.mk.inj hO
          show IntKind.i64.wrap (IntKind.i64.wrap (p - b) + ki) = p - b + ki
          rw [w64 (n := p - b) (by omega) (by omega)]
          exact w64 (by omega) (by omega)
        rw [hq]
        have hF := Front_pcr' l0 (p - b + ki) A1 n1 c1 _ H6 (by rw [hl0]; exact ((hl.mono hle4).mono hle5).mono hle6) hsl (by omega) (by rw [hl0]; show p - b + ki ≤ (n : Int); omega) (by omega)
        obtain ⟨qq, hqq⟩ : ∃ qq, p - b + ki = qq := ⟨_, rfl⟩
        rw [hqq, hl0] at hF
        rw [hqq]
        refine EvG.pcr Try.call60 (fun _ => rfl) hF ?_
        rintro H7 Ro7 v hle7 ⟨A7, n7, c7, rfl, hs7, ho7⟩ -
        refine ⟨.t (aggT (LV.cs ⟨b, bt, ⟨⟨a0, a1, a2, a3, a4⟩, ⟨b0, b1, b2, b3, b4⟩, two⟩, A7, n7, c7, []⟩)), _, fun _ => aggT_den _ _, rfl, ?_⟩
        refine run_sound (E := E18 ⟨oW, oA, oS, oM, oBa, oBo, oBx, oBn, oE, oN, oL, oLe, oAnd, oOr, oNot, oBq, oSq, oMx, oMn, oC, oSz, oAd, oIx, oQu, oRe, oSl, oSr⟩ H7) TEok hO Tm D18ok (PanicOk.lq (PanicOk.body _ _ _)) (Hp.le_refl _) 4000 _ _ ?_
        conv => arg 5; cbv
        simp only [Res.ok]
        refine RetG.loop (RetG.pcr TEok C18r rfl rfl rfl (List.sublist_append_left Ro7 _) (fun _ => rfl) ?_)
        refine hres H7 Ro7 A7 n7 c7 _ ?_ hs7 ho7
        rw [hm, ← hqq, hkn, ← hki]
      · have h7 : is6 = true ∧ t6 = t5 := by
          obtain ⟨rfl, rfl, rfl, rfl, rfl, rfl, rfl, rfl, rfl, rfl, rfl, rfl, rfl, rfl, rfl, rfl, rfl, rfl, rfl, rfl, rfl, rfl, rfl, rfl, rfl, rfl, rfl⟩ := Ops.mk.inj hO
          revert h7
          cases is6 <;> simp [Ops.std]
        rw [if_pos h7] at hm
        have hk1 : oA .i64 ki 1 = ((k + 1 : Nat) : Int) := by
          obtain ⟨rfl, rfl, rfl, rfl, rfl, rfl, rfl, rfl, rfl, rfl, rfl, rfl, rfl, rfl, rfl, rfl, rfl, rfl, rfl, rfl, rfl, rfl, rfl, rfl, rfl, rfl, rfl⟩ := Ops.mk.inj hO
          rw [← hki]
          exact w64 (by omega) (by omega)
        rw [hk1]
        have hfine : LV.fine l0 := by rw [hl0]; exact hf
        have hti6 := LV.term_is (i := p + 1 + ki) hfine ⟨by omega, by omega⟩
        rw [h6, hl0] at hti6
        have hle : p + 1 + ki ≤ b + n := by
          have : (b ≤ p + 1 + ki ∧ p + 1 + ki ≤ b + n) := by
            have h8 := h7.1
            rw [h8] at hti6
            simpa using hti6.symm
          exact this.2
        exact FinG.roundB [1, 3, 4, 8, 9, 11, 83, 84, 85] 3 (k + 1, H6) ⟨hlt, Hp.le_trans hle5 hle6, by show p + ((k + 1 : Nat) : Int) ≤ b + n; omega, hm⟩ (by show n3 - (k + 1) < n3 - k; omega) rfl rfl rfl rfl
    · have hge : ¬ (ki < (n3 : Int)) := by
        have h1 := h1
        obtain ⟨rfl, rfl, rfl, rfl, rfl, rfl, rfl, rfl, rfl, rfl, rfl, rfl, rfl, rfl, rfl, rfl, rfl, rfl, rfl, rfl, rfl, rfl, rfl, rfl, rfl, rfl, rfl⟩ := Ops.mk.inj hO
        simpa [Ops.std] using h1
      refine FinG.leave rfl rfl ?_
      refine run_sound (E := E18 ⟨oW, oA, oS, oM, oBa, oBo, oBx, oBn, oE, oN, oL, oLe, oAnd, oOr, oNot, oBq, oSq, oMx, oMn, oC, oSz, oAd, oIx, oQu, oRe, oSl, oSr⟩ H5) TEok hO Tm D18ok (PanicOk.body _ _ _) (Hp.le_refl _) 4000 _ _ ?_
      conv => arg 5; cbv
      simp only [Res.ok]
      refine RetG.pcr TEok C18r rfl rfl rfl (List.Sublist.refl RR) (fun _ => rfl) ?_
      have hk3 : k = n3 := by omega
      have hd : es3.drop k = [] := by rw [hk3, hs3.1]; exact List.drop_length
      rw [hd] at hm
      refine hres H5 RR fA fn fc es ?_ (hsf.mono hle5) hfo
      rw [hm]
      rfl
  refine run_sound (E := E18 ⟨oW, oA, oS, oM, oBa, oBo, oBx, oBn, oE, oN, oL, oLe, oAnd, oOr, oNot, oBq, oSq, oMx, oMn, oC, oSz, oAd, oIx, oQu, oRe, oSl, oSr⟩ H) TEok hO Tm D18ok (PanicOk.body _ _ _) (Hp.le_refl _) 4000 _ _ ?_
  conv => arg 5; cbv
  simp only [Res.ok]
  rw [hcn]
  refine EvG.pcr Try.call60 (fun _ => rfl) hF0 ?_
  rintro H1 RR v hle1 ⟨fA, fn, fc, rfl, hlf, hfo⟩ -
  refine ⟨.t (aggT (LV.cs ⟨b, bt, ⟨⟨a0, a1, a2, a3, a4⟩, ⟨b0, b1, b2, b3, b4⟩, two⟩, fA, fn, fc, es⟩)), _, fun _ => aggT_den _ _, rfl, ?_⟩
  refine run_sound (E := E18 ⟨oW, oA, oS, oM, oBa, oBo, oBx, oBn, oE, oN, oL, oLe, oAnd, oOr, oNot, oBq, oSq, oMx, oMn, oC, oSz, oAd, oIx, oQu, oRe, oSl, oSr⟩ H1) TEok hO Tm D18ok (PanicOk.body _ _ _) (Hp.le_refl _) 4000 _ _ ?_
  conv => arg 5; cbv
  simp only [Res.ok]
  refine EvG.pure Try.call15 (fun _ => rfl) (hL H1) ?_
  rintro H2 v hle2 rfl
  refine ⟨.t (.c (.v (.int .i64 lw))), _, fun _ => rfl, rfl, ?_⟩
  refine run_sound (E := E18 ⟨oW, oA, oS, oM, oBa, oBo, oBx, oBn, oE, oN, oL, oLe, oAnd, oOr, oNot, oBq, oSq, oMx, oMn, oC, oSz, oAd, oIx, oQu, oRe, oSl, oSr⟩ H2) TEok hO Tm D18ok (PanicOk.body _ _ _) (Hp.le_refl _) 4000 _ _ ?_
  conv => arg 5; cbv
  simp only [Res.ok]
  refine ⟨fun h1 => ?_, fun h1 => ?_⟩
  · refine RetG.pcr TEok C18r rfl rfl rfl (List.sublist_append_left RR _) (fun _ => rfl) ?_
    refine hbadR H2 (hbad1 ?_) RR fA fn fc (hlf.mono hle2) hfo
    obtain ⟨rfl, rfl, rfl, rfl, rfl, rfl, rfl, rfl, rfl, rfl, rfl, rfl, rfl, rfl, rfl, rfl, rfl, rfl, rfl, rfl, rfl, rfl, rfl, rfl, rfl, rfl, rfl⟩ := Ops.mk.inj hO
    simpa [Ops.std] using h1
  · have hg1 : ¬ (lw < prev ∨ prev < 0) := by
      obtain ⟨rfl, rfl, rfl, rfl, rfl, rfl, rfl, rfl, rfl, rfl, rfl, rfl, rfl, rfl, rfl, rfl, rfl, rfl, rfl, rfl, rfl, rfl, rfl, rfl, rfl, rfl, rfl⟩ := Ops.mk.inj hO
      simpa [Ops.std] using h1
    have hT := hTp H2 (Hp.le_trans hle1 hle2) prev
    rw [hl0, hti] at hT
    refine EvG.pure Try.call17 (fun _ => rfl) hT ?_
    rintro H3 v hle3 rfl
    refine ⟨.tup [.c (.v (.int .i64 t)), .c (.v (.bool is))], _, fun _ => ⟨_, rfl, rfl⟩, rfl, ?_⟩
    refine run_sound (E := E18 ⟨oW, oA, oS, oM, oBa, oBo, oBx, oBn, oE, oN, oL, oLe, oAnd, oOr, oNot, oBq, oSq, oMx, oMn, oC, oSz, oAd, oIx, oQu, oRe, oSl, oSr⟩ H3) TEok hO Tm D18ok (PanicOk.body _ _ _) (Hp.le_refl _) 4000 _ _ ?_
    conv => arg 5; cbv
    simp only [Res.ok]
    refine ⟨fun hA => ⟨fun h3 => ?_, fun h3 => ⟨fun h4 => ?_, fun h4 => ⟨fun h5 => ?_, fun h5 => ?_⟩⟩⟩, fun hA => ⟨fun h4 => ?_, fun h4 => ⟨fun h5 => ?_, fun h5 => ?_⟩⟩⟩
    · refine RetG.pcr TEok C18r rfl rfl rfl (List.sublist_append_left RR _) (fun _ => rfl) ?_
      refine hbadR H3 (hbad2 ?_ ?_) RR fA fn fc ((hlf.mono hle2).mono hle3) hfo
      · obtain ⟨rfl, rfl, rfl, rfl, rfl, rfl, rfl, rfl, rfl, rfl, rfl, rfl, rfl, rfl, rfl, rfl, rfl, rfl, rfl, rfl, rfl, rfl, rfl, rfl, rfl, rfl, rfl⟩ := Ops.mk.inj hO
        simpa [Ops.std] using hA
      · obtain ⟨rfl, rfl, rfl, rfl, rfl, rfl, rfl, rfl, rfl, rfl, rfl, rfl, rfl, rfl, rfl, rfl, rfl, rfl, rfl, rfl, rfl, rfl, rfl, rfl, rfl, rfl, rfl⟩ := Ops.mk.inj hO
        revert h3
        cases is <;> simp [Ops.std]
    · exfalso
      have h6 : b ≤ prev ∧ prev < b := by
        obtain ⟨rfl, rfl, rfl, rfl, rfl, rfl, rfl, rfl, rfl, rfl, rfl, rfl, rfl, rfl, rfl, rfl, rfl, rfl, rfl, rfl, rfl, rfl, rfl, rfl, rfl, rfl, rfl⟩ := Ops.mk.inj hO
        exact ⟨by simpa [Ops.std] using hA, by have := h4; simp [Ops.std] at this; exact this.1⟩
      omega
    · exfalso
      have h6 : b ≤ prev ∧ prev < b := by
        obtain ⟨rfl, rfl, rfl, rfl, rfl, rfl, rfl, rfl, rfl, rfl, rfl, rfl, rfl, rfl, rfl, rfl, rfl, rfl, rfl, rfl, rfl, rfl, rfl, rfl, rfl, rfl, rfl⟩ := Ops.mk.inj hO
        exact ⟨by simpa [Ops.std] using hA, by simpa [Ops.std] using h5⟩
      omega
    · have hbp : b ≤ prev := by
        obtain ⟨rfl, rfl, rfl, rfl, rfl, rfl, rfl, rfl, rfl, rfl, rfl, rfl, rfl, rfl, rfl, rfl, rfl, rfl, rfl, rfl, rfl, rfl, rfl, rfl, rfl, rfl, rfl⟩ := Ops.mk.inj hO
        simpa [Ops.std] using hA
      have hg : ¬ mergeBad l0 prev term es2 := by
        rw [hl0]
        refine hgood hg1 (fun _ => ?_) (fun h => absurd (show b ≤ prev from hbp) (by have := h.1; simp only at this; omega))
        obtain ⟨rfl, rfl, rfl, rfl, rfl, rfl, rfl, rfl, rfl, rfl, rfl, rfl, rfl, rfl, rfl, rfl, rfl, rfl, rfl, rfl, rfl, rfl, rfl, rfl, rfl, rfl, rfl⟩ := Ops.mk.inj hO
        revert h3
        cases is <;> simp [Ops.std]
      rw [hl0] at hg
      have hla : oA .i64 prev (oC n2) = prev + n2 := by
        obtain ⟨p1, p2⟩ := hp
        have := hlw
        obtain ⟨g1, g2, g3⟩ := hf
        have hb := hb
        simp only at g1 g2 g3 this hb
        obtain ⟨rfl, rfl, rfl, rfl, rfl, rfl, rfl, rfl, rfl, rfl, rfl, rfl, rfl, rfl, rfl, rfl, rfl, rfl, rfl, rfl, rfl, rfl, rfl, rfl, rfl, rfl, rfl⟩ := Ops.mk.inj hO
        show IntKind.i64.wrap (prev + (n2 : Int)) = prev + (n2 : Int)
        exact w64 (by omega) (by omega)
      rw [← hl0]
      refine loop fA fn fc prev (oA .i64 prev (oC n2)) A2 n2 c2 es2 H3 (RR ++ []) _ hbp (by have := hlw; simp only at this; omega) (by simpa using hb) (Hp.le_trans hle1 (Hp.le_trans hle2 hle3)) (h2.mono (Hp.le_trans hle1 (Hp.le_trans hle2 hle3))) ((hlf.mono hle2).mono hle3) (by rw [List.append_nil]; exact hfo) ?_ rfl rfl rfl
      intro H' Ro A' n' c' es' he hs hw'
      rw [hla, hl0]
      refine hresM hg H' Ro A' n' c' es' ?_ hs hw'
      rw [hl0] at he
      rw [mergeEs_hi hbp]
      exact he
    · refine RetG.pcr TEok C18r rfl rfl rfl (List.sublist_append_left RR _) (fun _ => rfl) ?_
      have h6 : prev < b ∧ (n2 : Int) < b - prev := by
        obtain ⟨p1, p2⟩ := hp
        obtain ⟨g1, g2, g3⟩ := hf
        simp only at g1 g2 g3
        obtain ⟨rfl, rfl, rfl, rfl, rfl, rfl, rfl, rfl, rfl, rfl, rfl, rfl, rfl, rfl, rfl, rfl, rfl, rfl, rfl, rfl, rfl, rfl, rfl, rfl, rfl, rfl, rfl⟩ := Ops.mk.inj hO
        have h7 : prev < b ∧ (n2 : Int) < IntKind.i64.wrap (b - prev) := by simpa [Ops.std] using h4
        rw [w64 (by omega) (by omega)] at h7
        exact h7
      exact hbadR H3 (hbad3 h6.1 h6.2) RR fA fn fc ((hlf.mono hle2).mono hle3) hfo
    · have hbp : prev < b := by
        obtain ⟨rfl, rfl, rfl, rfl, rfl, rfl, rfl, rfl, rfl, rfl, rfl, rfl, rfl, rfl, rfl, rfl, rfl, rfl, rfl, rfl, rfl, rfl, rfl, rfl, rfl, rfl, rfl⟩ := Ops.mk.inj hO
        simpa [Ops.std] using h5
      obtain ⟨g1, g2, g3⟩ := hf
      have hb := hb
      simp only at g1 g2 g3 hb
      have hp0 : 0 ≤ prev := by omega
      have hsb : oS .i64 b prev = b - prev := by
        obtain ⟨rfl, rfl, rfl, rfl, rfl, rfl, rfl, rfl, rfl, rfl, rfl, rfl, rfl, rfl, rfl, rfl, rfl, rfl, rfl, rfl, rfl, rfl, rfl, rfl, rfl, rfl, rfl⟩ := Ops.mk.inj hO
        exact w64 (by omega) (by omega)
      have hn2 : ¬ ((n2 : Int) < b - prev) := by
        have h4 := h4
        have h7 : prev < b → b - prev ≤ (n2 : Int) := by
          obtain ⟨rfl, rfl, rfl, rfl, rfl, rfl, rfl, rfl, rfl, rfl, rfl, rfl, rfl, rfl, rfl, rfl, rfl, rfl, rfl, rfl, rfl, rfl, rfl, rfl, rfl, rfl, rfl⟩ := Ops.mk.inj hO
          have h7 : prev < b → IntKind.i64.wrap (b - prev) ≤ (n2 : Int) := by simpa [Ops.std] using h4
          rw [w64 (n := b - prev) (by omega) (by omega)] at h7
          exact h7
        have := h7 hbp
        omega
      have hg : ¬ mergeBad ⟨b, bt, ⟨⟨a0, a1, a2, a3, a4⟩, ⟨b0, b1, b2, b3, b4⟩, two⟩, A, n, c, es⟩ prev term es2 :=
        hgood hg1 (fun h => absurd h (by show ¬ b ≤ prev; omega)) (fun h => hn2 h.2)
      have hla : oA .i64 prev (oC n2) = prev + n2 := by
        obtain ⟨rfl, rfl, rfl, rfl, rfl, rfl, rfl, rfl, rfl, rfl, rfl, rfl, rfl, rfl, rfl, rfl, rfl, rfl, rfl, rfl, rfl, rfl, rfl, rfl, rfl, rfl, rfl⟩ := Ops.mk.inj hO
        show IntKind.i64.wrap (prev + (n2 : Int)) = prev + (n2 : Int)
        exact w64 (by omega) (by omega)
      have hsl := SVok.slice (k := b - prev) (h2.mono (Hp.le_trans hle1 (Hp.le_trans hle2 hle3))) (by omega)
      rw [hsb]
      obtain ⟨dd, hdd⟩ : ∃ dd, b - prev = dd := ⟨_, rfl⟩
      rw [hdd] at hsl ⊢
      refine ⟨by show 0 ≤ dd; omega, by show dd ≤ (n2 : Int); omega, by show (n2 : Int) ≤ c2; have := h2.2.1; omega, fun A1 n1 c1 hA1 hn1 hc1 => ⟨_, rfl, ?_⟩⟩
      simp only [Option.getD_some, Option.getD_none, Int.toNat_natCast] at hA1 hn1 hc1
      rw [← hA1, ← hn1, ← hc1] at hsl
      have hn1' : n1 ≤ n2 := by omega
      clear hA1 hn1 hc1
      refine run_sound (E := E18 ⟨oW, oA, oS, oM, oBa, oBo, oBx, oBn, oE, oN, oL, oLe, oAnd, oOr, oNot, oBq, oSq, oMx, oMn, oC, oSz, oAd, oIx, oQu, oRe, oSl, oSr⟩ H3) TEok hO Tm D18ok (PanicOk.body _ _ _) (Hp.le_refl _) 4000 _ _ ?_
      conv => arg 5; cbv
      simp only [Res.ok]
      rw [← hl0]
      refine loop fA fn fc b (oA .i64 prev (oC n2)) A1 n1 c1 (es2.drop dd.toNat) H3 (RR ++ []) _ (Int.le_refl _) (by omega) (by omega) (Hp.le_trans hle1 (Hp.le_trans hle2 hle3)) hsl ((hlf.mono hle2).mono hle3) (by rw [List.append_nil]; exact hfo) ?_ rfl rfl rfl
      intro H' Ro A' n' c' es' he hs hw'
      rw [hla, hl0]
      refine hresM hg H' Ro A' n' c' es' ?_ hs hw'
      rw [hl0] at he
      rw [mergeEs_lo (show prev < b from hbp)]
      show es' = match mism _ b 0 (es2.drop (b - prev).toNat) with | none => es | some k => es.take (b - b + k).toNat ++ (es2.drop (b - prev).toNat).drop k
      rw [hdd]
      exact he
    · exfalso
      have h6 : prev < b ∧ b ≤ prev := by
        obtain ⟨rfl, rfl, rfl, rfl, rfl, rfl, rfl, rfl, rfl, rfl, rfl, rfl, rfl, rfl, rfl, rfl, rfl, rfl, rfl, rfl, rfl, rfl, rfl, rfl, rfl, rfl, rfl⟩ := Ops.mk.inj hO
        exact ⟨by simpa [Ops.std] using hA, by simpa [Ops.std] using h5⟩
      omega
theorem Merge_pc (l : LV) (prev term : Int) (A2 : Option Addr) (n2 c2 : Nat) (es2 : List Entry) (H : Hp) (hl : l.ok H) (hf : l.fine) (h2 : SVok H A2 n2 c2 es2) (hp : In64 prev) (hb : l.n + n2 ≤ 1048576) :
    PC Try.prog 18 [aggV l.cs, .int .i64 prev, .int .i64 term, .slice A2 n2 c2] H (MergeR l prev term es2) :=
  (Merge_pcr l prev term A2 n2 c2 es2 H hl hf h2 hp hb).pc.mono fun _ _ _ ⟨_, h⟩ => by
    rcases h with ⟨h1, l', h2, h3, h4, _⟩ | ⟨h1, l', h2, h3, h4, _⟩
    · exact .inl ⟨h1, l', h2, h3, h4⟩
    · exact .inr ⟨h1, l', h2, h3, h4⟩
end Go.Sx
