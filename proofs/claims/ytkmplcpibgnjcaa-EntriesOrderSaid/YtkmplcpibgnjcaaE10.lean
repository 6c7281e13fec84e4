/- Contracts: newer; and the statement EntriesOrder, walked. -/
import Derived.Test.YtkmplcpibgnjcaaE9
namespace Go.Sx
open Go.Proofs Go.RowKit

theorem Last_pc' (l : LV) (H : Hp) : PC Try.prog 15 [aggV l.cs] H fun _ v => v = .int .i64 l.lastW := Last_pc l H
/-- is y at least as new as x? -/
def nw (x y : LV) : Bool := y.newer x.lastW (x.term x.lastW).1
noncomputable def C20 : Code := fbody Try.f20
theorem C20b : Try.f20.body = some C20 := by kernel_rfl
theorem C20r : Try.f20.results.toList = [.tmp 4] := by kernel_rfl
def D20 : List (List Nat) := [[0, 1], [0, 1, 1]]
theorem D20ok : drOk C20 D20 = true := by kernel_rfl
noncomputable def E20 (O : Ops) (H : Hp) : Env := ⟨O, H, TE, C20, [.tmp 4], D20⟩
theorem newer_pc (x y : LV) (H : Hp) (hx : x.ok H) (hy : y.ok H) : PC Try.prog 20 [aggV x.cs, aggV y.cs] H fun _ v => v = .bool (nw x y) := by
  have hL := fun H1 => Last_pc x H1
  have hT := fun (H1 : Hp) (hle : Hp.le H H1) => Term_pc x x.lastW H1 (hx.mono hle)
  have hN := fun (H1 : Hp) (hle : Hp.le H H1) => Newer_pc y x.lastW (x.term x.lastW).1 H1 (hy.mono hle)
  unfold nw
  obtain ⟨nn, hnn⟩ : ∃ nn, y.newer x.lastW (x.term x.lastW).1 = nn := ⟨_, rfl⟩
  rw [hnn] at hN ⊢
  obtain ⟨lw, hlw⟩ : ∃ lw, x.lastW = lw := ⟨_, rfl⟩
  rw [hlw] at hL hT hN
  obtain ⟨⟨t, is⟩, hti⟩ : ∃ t, x.term lw = t := ⟨_, rfl⟩
  rw [hti] at hT hN
  clear hnn hlw hti hx hy
  obtain ⟨b, bt, ⟨⟨a0, a1, a2, a3, a4⟩, ⟨b0, b1, b2, b3, b4⟩, two⟩, A, n, c, es⟩ := x
  obtain ⟨yb, ybt, ⟨⟨c0, c1, c2, c3, c4⟩, ⟨d0, d1, d2, d3, d4⟩, ytwo⟩, yA, yn, yc, yes⟩ := y
  refine PC.enter [aggT (LV.cs ⟨b, bt, ⟨⟨a0, a1, a2, a3, a4⟩, ⟨b0, b1, b2, b3, b4⟩, two⟩, A, n, c, es⟩), aggT (LV.cs ⟨yb, ybt, ⟨⟨c0, c1, c2, c3, c4⟩, ⟨d0, d1, d2, d3, d4⟩, ytwo⟩, yA, yn, yc, yes⟩)] Try.func20 C20b rfl 19 Try.ntmps20 (by simp) fun w hw => ?_
  refine ops_open fun oW oA oS oM oBa oBo oBx oBn oE oN oL oLe oAnd oOr oNot oBq oSq oMx oMn oC oSz oAd oIx oQu oRe oSl oSr hO => ?_
  refine run_sound (E := E20 ⟨oW, oA, oS, oM, oBa, oBo, oBx, oBn, oE, oN, oL, oLe, oAnd, oOr, oNot, oBq, oSq, oMx, oMn, oC, oSz, oAd, oIx, oQu, oRe, oSl, oSr⟩ _) TEok hO Tm D20ok (PanicOk.body _ _ _) (Hp.le_refl _) 4000 _ _ ?_
  conv => arg 5; cbv
  simp only [Res.ok]
  refine EvG.pure Try.call15 (fun _ => rfl) (hL _) ?_
  rintro H1 v hle1 rfl
  refine ⟨.t (.c (.v (.int .i64 lw))), _, fun _ => rfl, rfl, ?_⟩
  refine run_sound (E := E20 ⟨oW, oA, oS, oM, oBa, oBo, oBx, oBn, oE, oN, oL, oLe, oAnd, oOr, oNot, oBq, oSq, oMx, oMn, oC, oSz, oAd, oIx, oQu, oRe, oSl, oSr⟩ _) TEok hO Tm D20ok (PanicOk.body _ _ _) (Hp.le_refl _) 4000 _ _ ?_
  conv => arg 5; cbv
  simp only [Res.ok]
  refine EvG.pure Try.call17 (fun _ => rfl) (hT _ hle1) ?_
  rintro H2 v hle2 rfl
  refine ⟨.tup [.c (.v (.int .i64 t)), .c (.v (.bool is))], _, fun _ => ⟨_, rfl, rfl⟩, rfl, ?_⟩
  refine run_sound (E := E20 ⟨oW, oA, oS, oM, oBa, oBo, oBx, oBn, oE, oN, oL, oLe, oAnd, oOr, oNot, oBq, oSq, oMx, oMn, oC, oSz, oAd, oIx, oQu, oRe, oSl, oSr⟩ _) TEok hO Tm D20ok (PanicOk.body _ _ _) (Hp.le_refl _) 4000 _ _ ?_
  conv => arg 5; cbv
  simp only [Res.ok]
  refine EvG.pure Try.call15 (fun _ => rfl) (hL _) ?_
  rintro H3 v hle3 rfl
  refine ⟨.t (.c (.v (.int .i64 lw))), _, fun _ => rfl, rfl, ?_⟩
  refine run_sound (E := E20 ⟨oW, oA, oS, oM, oBa, oBo, oBx, oBn, oE, oN, oL, oLe, oAnd, oOr, oNot, oBq, oSq, oMx, oMn, oC, oSz, oAd, oIx, oQu, oRe, oSl, oSr⟩ _) TEok hO Tm D20ok (PanicOk.body _ _ _) (Hp.le_refl _) 4000 _ _ ?_
  conv => arg 5; cbv
  simp only [Res.ok]
  refine EvG.pure Try.call39 (fun _ => rfl) (hN _ (Hp.le_trans hle1 (Hp.le_trans hle2 hle3))) ?_
  rintro H4 v hle4 rfl
  refine ⟨.t (.c (.v (.bool nn))), _, fun _ => rfl, rfl, ?_⟩
  refine run_sound (E := E20 ⟨oW, oA, oS, oM, oBa, oBo, oBx, oBn, oE, oN, oL, oLe, oAnd, oOr, oNot, oBq, oSq, oMx, oMn, oC, oSz, oAd, oIx, oQu, oRe, oSl, oSr⟩ _) TEok hO Tm D20ok (PanicOk.body _ _ _) (Hp.le_refl _) 4000 _ _ ?_
  conv => arg 5; cbv
  simp only [Res.ok]
  exact RetG.pc TEok C20r rfl rfl rfl (fun _ => rfl) rfl

theorem cmp_nw (x y : LV) : nw x y = decide (0 ≤ if cmpI (x.term x.lastW).1 (y.term y.lastW).1 = 0 then cmpI x.lastW y.lastW else cmpI (x.term x.lastW).1 (y.term y.lastW).1) := rfl
theorem nw_order (x y z : LV) : (nw x y || nw y x) = true ∧ (nw x y && nw y x) = (decide ((x.term x.lastW).1 = (y.term y.lastW).1) && decide (x.lastW = y.lastW)) ∧ (nw x y && nw y z && !nw x z) = false := by
  simp only [cmp_nw]
  generalize (x.term x.lastW).1 = a
  generalize (y.term y.lastW).1 = b
  generalize (z.term z.lastW).1 = c
  generalize x.lastW = d
  generalize y.lastW = e
  generalize z.lastW = f
  unfold cmpI
  refine ⟨?_, ?_, ?_⟩
  · rcases Int.lt_trichotomy a b with h | h | h <;> rcases Int.lt_trichotomy d e with h2 | h2 | h2 <;> simp [*] <;> omega
  · rcases Int.lt_trichotomy a b with h | h | h <;> rcases Int.lt_trichotomy d e with h2 | h2 | h2 <;> simp [*] <;> omega
  · rcases Int.lt_trichotomy a b with h | h | h <;> rcases Int.lt_trichotomy d e with h2 | h2 | h2 <;> rcases Int.lt_trichotomy b c with h3 | h3 | h3 <;> rcases Int.lt_trichotomy e f with h4 | h4 | h4 <;> simp [*] <;> omega
end Go.Sx
