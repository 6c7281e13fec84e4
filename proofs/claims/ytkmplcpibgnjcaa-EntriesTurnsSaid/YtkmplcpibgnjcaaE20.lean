/- Contracts: the reference's Term, Slice, Conf, Newer. -/
import Derived.Test.YtkmplcpibgnjcaaE19
import Derived.Test.YtkmplcpibgnjcaaE15
namespace Go.Sx
open Go.Proofs Go.RowKit

noncomputable def C33 : Code := fbody Try.f33
theorem C33b : Try.f33.body = some C33 := by kernel_rfl
theorem C33r : Try.f33.results.toList = [.tmp 4, .tmp 5] := by kernel_rfl
def D33 : List (List Nat) := []
theorem D33ok : drOk C33 D33 = true := by kernel_rfl
noncomputable def E33 (O : Ops) (H : Hp) : Env := ⟨O, H, TE, C33, [.tmp 4, .tmp 5], D33⟩
theorem rTerm_pc (l : LV) (i : Int) (H : Hp) (hl : l.ok H) (hf : l.fine) (hi : In64 i) : PC Try.prog 33 [aggV l.cs, .int .i64 i] H fun _ v => v = .tuple #[.int .i64 (l.term i).1, .bool (l.term i).2] := by
  have hA := rAt_pc l i H hl hf hi
  unfold LV.term
  obtain ⟨⟨e, is⟩, he⟩ : ∃ x, l.at i = x := ⟨_, rfl⟩
  rw [he] at hA ⊢
  refine PC.enter [aggT l.cs, .c (.v (.int .i64 i))] Try.func33 C33b rfl 23 Try.ntmps33 (by simp) fun w hw => ?_
  refine ops_open fun oW oA oS oM oBa oBo oBx oBn oE oN oL oLe oAnd oOr oNot oBq oSq oMx oMn oC oSz oAd oIx oQu oRe oSl oSr hO => ?_
  refine run_sound (E := E33 ⟨oW, oA, oS, oM, oBa, oBo, oBx, oBn, oE, oN, oL, oLe, oAnd, oOr, oNot, oBq, oSq, oMx, oMn, oC, oSz, oAd, oIx, oQu, oRe, oSl, oSr⟩ _) TEok hO Tm D33ok (PanicOk.body _ _ _) (Hp.le_refl _) 4000 _ _ ?_
  conv => arg 5; cbv
  simp only [Res.ok]
  refine ⟨fun h1 => ?_, fun h1 => ?_⟩
  · refine RetG.pc TEok C33r rfl rfl rfl (fun _ => rfl) ?_
    change oE i l.b = true at h1
    have h1 : i = l.b := by
      obtain ⟨rfl, rfl, rfl, rfl, rfl, rfl, rfl, rfl, rfl, rfl, rfl, rfl, rfl, rfl, rfl, rfl, rfl, rfl, rfl, rfl, rfl, rfl, rfl, rfl, rfl, rfl, rfl⟩ := Ops.mk.inj hO
      simpa [Ops.std] using h1
    rw [if_pos h1]
    rfl
  · change oE i l.b = false at h1
    have h1 : ¬ i = l.b := by
      obtain ⟨rfl, rfl, rfl, rfl, rfl, rfl, rfl, rfl, rfl, rfl, rfl, rfl, rfl, rfl, rfl, rfl, rfl, rfl, rfl, rfl, rfl, rfl, rfl, rfl, rfl, rfl, rfl⟩ := Ops.mk.inj hO
      simpa [Ops.std] using h1
    rw [if_neg h1]
    refine EvG.pure Try.call34 (fun _ => rfl) (hA) ?_
    rintro H1 v hle1 rfl
    refine ⟨.tup [aggT e.cs, .c (.v (.bool is))], _, fun _ => (by first | exact rfl | exact ⟨_, rfl, rfl⟩ | exact aggT_den _ _), rfl, ?_⟩
    refine run_sound (E := E33 ⟨oW, oA, oS, oM, oBa, oBo, oBx, oBn, oE, oN, oL, oLe, oAnd, oOr, oNot, oBq, oSq, oMx, oMn, oC, oSz, oAd, oIx, oQu, oRe, oSl, oSr⟩ _) TEok hO Tm D33ok (PanicOk.body _ _ _) (Hp.le_refl _) 4000 _ _ ?_
    conv => arg 5; cbv
    simp only [Res.ok]
    exact RetG.pc TEok C33r rfl rfl rfl (fun _ => rfl) rfl
noncomputable def C67 : Code := fbody Try.f67
theorem C67b : Try.f67.body = some C67 := by kernel_rfl
theorem C67r : Try.f67.results.toList = [.tmp 2] := by kernel_rfl
def D67 : List (List Nat) := [[0, 1]]
theorem D67ok : drOk C67 D67 = true := by kernel_rfl
noncomputable def E67 (O : Ops) (H : Hp) : Env := ⟨O, H, TE, C67, [.tmp 2], D67⟩
theorem rLastTerm_pc (l : LV) (H : Hp) (hl : l.ok H) (hf : l.fine) : PC Try.prog 67 [aggV l.cs] H fun _ v => v = .int .i64 (l.term (l.b + l.n)).1 := by
  obtain ⟨g1, g2, g3⟩ := id hf
  have cL := fun H' => rLast_pc l H'
  have cT := fun (H' : Hp) (h : Hp.le H H') => rTerm_pc l (l.b + l.n) H' (hl.mono h) hf ⟨by omega, by omega⟩
  rw [LV.lastW_eq hf] at cL
  obtain ⟨lw, hlw⟩ : ∃ x, l.b + l.n = x := ⟨_, rfl⟩
  rw [hlw] at cL cT ⊢
  obtain ⟨⟨t, is⟩, ht⟩ : ∃ x, l.term lw = x := ⟨_, rfl⟩
  rw [ht] at cT ⊢
  refine PC.enter [aggT l.cs] Try.func67 C67b rfl 13 Try.ntmps67 (by simp) fun w hw => ?_
  refine ops_open fun oW oA oS oM oBa oBo oBx oBn oE oN oL oLe oAnd oOr oNot oBq oSq oMx oMn oC oSz oAd oIx oQu oRe oSl oSr hO => ?_
  refine run_sound (E := E67 ⟨oW, oA, oS, oM, oBa, oBo, oBx, oBn, oE, oN, oL, oLe, oAnd, oOr, oNot, oBq, oSq, oMx, oMn, oC, oSz, oAd, oIx, oQu, oRe, oSl, oSr⟩ _) TEok hO Tm D67ok (PanicOk.body _ _ _) (Hp.le_refl _) 4000 _ _ ?_
  conv => arg 5; cbv
  simp only [Res.ok]
  refine EvG.pure Try.call35 (fun _ => rfl) (cL _) ?_
  rintro H1 v hle1 rfl
  refine ⟨.t (.c (.v (.int .i64 lw))), _, fun _ => (by first | exact rfl | exact ⟨_, rfl, rfl⟩ | exact aggT_den _ _), rfl, ?_⟩
  refine run_sound (E := E67 ⟨oW, oA, oS, oM, oBa, oBo, oBx, oBn, oE, oN, oL, oLe, oAnd, oOr, oNot, oBq, oSq, oMx, oMn, oC, oSz, oAd, oIx, oQu, oRe, oSl, oSr⟩ _) TEok hO Tm D67ok (PanicOk.body _ _ _) (Hp.le_refl _) 4000 _ _ ?_
  conv => arg 5; cbv
  simp only [Res.ok]
  refine EvG.pure Try.call33 (fun _ => rfl) (cT _ hle1) ?_
  rintro H2 v hle2 rfl
  refine ⟨.tup [.c (.v (.int .i64 t)), .c (.v (.bool is))], _, fun _ => (by first | exact rfl | exact ⟨_, rfl, rfl⟩ | exact aggT_den _ _), rfl, ?_⟩
  refine run_sound (E := E67 ⟨oW, oA, oS, oM, oBa, oBo, oBx, oBn, oE, oN, oL, oLe, oAnd, oOr, oNot, oBq, oSq, oMx, oMn, oC, oSz, oAd, oIx, oQu, oRe, oSl, oSr⟩ _) TEok hO Tm D67ok (PanicOk.body _ _ _) (Hp.le_refl _) 4000 _ _ ?_
  conv => arg 5; cbv
  simp only [Res.ok]
  exact RetG.pc TEok C67r rfl rfl rfl (fun _ => rfl) rfl
def rNew (l : LV) (last term : Int) : Bool := decide (term > (l.term (l.b + l.n)).1) || decide (term = (l.term (l.b + l.n)).1) && decide (last ≥ l.b + l.n)
noncomputable def C40 : Code := fbody Try.f40
theorem C40b : Try.f40.body = some C40 := by kernel_rfl
theorem C40r : Try.f40.results.toList = [.tmp 6] := by kernel_rfl
def D40 : List (List Nat) := []
theorem D40ok : drOk C40 D40 = true := by kernel_rfl
noncomputable def E40 (O : Ops) (H : Hp) : Env := ⟨O, H, TE, C40, [.tmp 6], D40⟩
theorem rNewer_pc (l : LV) (last term : Int) (H : Hp) (hl : l.ok H) (hf : l.fine) : PC Try.prog 40 [aggV l.cs, .int .i64 last, .int .i64 term] H fun _ v => v = .bool (rNew l last term) := by
  have cL := fun H' => rLast_pc l H'
  have cT := fun (H' : Hp) (h : Hp.le H H') => rLastTerm_pc l H' (hl.mono h) hf
  rw [LV.lastW_eq hf] at cL
  unfold rNew
  obtain ⟨lw, hlw⟩ : ∃ x, l.b + l.n = x := ⟨_, rfl⟩
  rw [hlw] at cL cT ⊢
  obtain ⟨t, ht⟩ : ∃ x, (l.term lw).1 = x := ⟨_, rfl⟩
  rw [ht] at cT ⊢
  refine PC.enter [aggT l.cs, .c (.v (.int .i64 last)), .c (.v (.int .i64 term))] Try.func40 C40b rfl 23 Try.ntmps40 (by simp) fun w hw => ?_
  refine ops_open fun oW oA oS oM oBa oBo oBx oBn oE oN oL oLe oAnd oOr oNot oBq oSq oMx oMn oC oSz oAd oIx oQu oRe oSl oSr hO => ?_
  refine run_sound (E := E40 ⟨oW, oA, oS, oM, oBa, oBo, oBx, oBn, oE, oN, oL, oLe, oAnd, oOr, oNot, oBq, oSq, oMx, oMn, oC, oSz, oAd, oIx, oQu, oRe, oSl, oSr⟩ _) TEok hO Tm D40ok (PanicOk.body _ _ _) (Hp.le_refl _) 4000 _ _ ?_
  conv => arg 5; cbv
  simp only [Res.ok]
  refine EvG.pure Try.call67 (fun _ => rfl) (cT _ (Hp.le_refl _)) ?_
  rintro H1 v hle1 rfl
  refine ⟨.t (.c (.v (.int .i64 t))), _, fun _ => (by first | exact rfl | exact ⟨_, rfl, rfl⟩ | exact aggT_den _ _), rfl, ?_⟩
  refine run_sound (E := E40 ⟨oW, oA, oS, oM, oBa, oBo, oBx, oBn, oE, oN, oL, oLe, oAnd, oOr, oNot, oBq, oSq, oMx, oMn, oC, oSz, oAd, oIx, oQu, oRe, oSl, oSr⟩ _) TEok hO Tm D40ok (PanicOk.body _ _ _) (Hp.le_refl _) 4000 _ _ ?_
  conv => arg 5; cbv
  simp only [Res.ok]
  refine ⟨fun h1 => ?_, fun h1 => ?_⟩
  · refine RetG.pc TEok C40r rfl rfl rfl (fun _ => rfl) ?_
    refine congrArg Value.bool ?_
    obtain ⟨rfl, rfl, rfl, rfl, rfl, rfl, rfl, rfl, rfl, rfl, rfl, rfl, rfl, rfl, rfl, rfl, rfl, rfl, rfl, rfl, rfl, rfl, rfl, rfl, rfl, rfl, rfl⟩ := Ops.mk.inj hO
    simp [Ops.std] at h1 ⊢
    simp [h1]
  refine EvG.pure Try.call67 (fun _ => rfl) (cT _ hle1) ?_
  rintro H2 v hle2 rfl
  refine ⟨.t (.c (.v (.int .i64 t))), _, fun _ => (by first | exact rfl | exact ⟨_, rfl, rfl⟩ | exact aggT_den _ _), rfl, ?_⟩
  refine run_sound (E := E40 ⟨oW, oA, oS, oM, oBa, oBo, oBx, oBn, oE, oN, oL, oLe, oAnd, oOr, oNot, oBq, oSq, oMx, oMn, oC, oSz, oAd, oIx, oQu, oRe, oSl, oSr⟩ _) TEok hO Tm D40ok (PanicOk.body _ _ _) (Hp.le_refl _) 4000 _ _ ?_
  conv => arg 5; cbv
  simp only [Res.ok]
  refine ⟨fun h2 => ?_, fun h2 => ?_⟩
  · refine EvG.pure Try.call35 (fun _ => rfl) (cL _) ?_
    rintro H3 v hle3 rfl
    refine ⟨.t (.c (.v (.int .i64 lw))), _, fun _ => (by first | exact rfl | exact ⟨_, rfl, rfl⟩ | exact aggT_den _ _), rfl, ?_⟩
    refine run_sound (E := E40 ⟨oW, oA, oS, oM, oBa, oBo, oBx, oBn, oE, oN, oL, oLe, oAnd, oOr, oNot, oBq, oSq, oMx, oMn, oC, oSz, oAd, oIx, oQu, oRe, oSl, oSr⟩ _) TEok hO Tm D40ok (PanicOk.body _ _ _) (Hp.le_refl _) 4000 _ _ ?_
    conv => arg 5; cbv
    simp only [Res.ok]
    refine RetG.pc TEok C40r rfl rfl rfl (fun _ => rfl) ?_
    refine congrArg Value.bool ?_
    obtain ⟨rfl, rfl, rfl, rfl, rfl, rfl, rfl, rfl, rfl, rfl, rfl, rfl, rfl, rfl, rfl, rfl, rfl, rfl, rfl, rfl, rfl, rfl, rfl, rfl, rfl, rfl, rfl⟩ := Ops.mk.inj hO
    simp [Ops.std] at h1 h2 ⊢
    simp [h2]
  · refine RetG.pc TEok C40r rfl rfl rfl (fun _ => rfl) ?_
    refine congrArg Value.bool ?_
    obtain ⟨rfl, rfl, rfl, rfl, rfl, rfl, rfl, rfl, rfl, rfl, rfl, rfl, rfl, rfl, rfl, rfl, rfl, rfl, rfl, rfl, rfl, rfl, rfl, rfl, rfl, rfl, rfl⟩ := Ops.mk.inj hO
    simp [Ops.std] at h1 h2 ⊢
    simp [h2]
    omega
theorem newer_eq {l : LV} (hf : l.fine) (last term : Int) : l.newer last term = rNew l last term := by
  unfold LV.newer rNew
  rw [LV.lastW_eq hf]
  generalize (l.term (l.b + l.n)).1 = t
  generalize l.b + (l.n : Int) = w
  unfold cmpI
  rcases Int.lt_trichotomy term t with h | h | h <;> rcases Int.lt_trichotomy last w with h2 | h2 | h2 <;> simp [*] <;> omega

/-- what is in force, and where it stands -/
def cfAt (b : Int) : Nat → List Entry → Joint × Int → Joint × Int
  | _, [], x => x
  | k, e :: r, x => cfAt b (k + 1) r (if e.kind = 2 then (e.conf, b + 1 + k) else x)
def LV.cf (l : LV) : Joint × Int := cfAt l.b 0 l.es (l.j, l.b)
theorem cfAt_conf (b : Int) : ∀ (es : List Entry) (k : Nat) (x : Joint × Int), (cfAt b k es x).1 = confOf es x.1
  | [], k, x => rfl
  | e :: r, k, x => by
    rw [show e :: r = [e] ++ r from rfl, confOf_append]
    simp only [List.cons_append, List.nil_append, cfAt]
    rw [cfAt_conf b r (k + 1)]
    congr 1
    unfold confOf
    by_cases h : e.kind = 2
    · simp [h]
    · simp [h]
theorem cfAt_step {b : Int} {k : Nat} {es : List Entry} {e : Entry} {x : Joint × Int} (h : es[k]? = some e) : cfAt b k (es.drop k) x = cfAt b (k + 1) (es.drop (k + 1)) (if e.kind = 2 then (e.conf, b + 1 + k) else x) := by
  obtain ⟨h7, h8⟩ := List.getElem?_eq_some_iff.1 h
  rw [List.drop_eq_getElem_cons h7, h8]
  rfl
noncomputable def C64 : Code := fbody Try.f64
theorem C64b : Try.f64.body = some C64 := by kernel_rfl
theorem C64r : Try.f64.results.toList = [.cell 2 29, .tmp 3] := by kernel_rfl
def D64 : List (List Nat) := [[0, 1], [0, 1, 0, 0, 1, 0, 0, 1, 0, 1, 1]]
theorem D64ok : drOk C64 D64 = true := by kernel_rfl
noncomputable def E64 (O : Ops) (H : Hp) : Env := ⟨O, H, TE, C64, [.cell 2 29, .tmp 3], D64⟩
set_option maxRecDepth 100000 in
theorem rConfAt_pc (l : LV) (H : Hp) (hl : l.ok H) (hf : l.fine) : PC Try.prog 64 [aggV l.cs] H fun _ v => v = .tuple #[aggV l.cf.1.cs, .int .i64 l.cf.2] := by
  obtain ⟨g1, g2, g3⟩ := id hf
  refine PC.enter [aggT l.cs] Try.func64 C64b rfl 38 Try.ntmps64 (by simp) fun w hw => ?_
  refine ops_open fun oW oA oS oM oBa oBo oBx oBn oE oN oL oLe oAnd oOr oNot oBq oSq oMx oMn oC oSz oAd oIx oQu oRe oSl oSr hO => ?_
  have had : ∀ pa k, oAd pa k = pa.add k := by
    obtain ⟨rfl, rfl, rfl, rfl, rfl, rfl, rfl, rfl, rfl, rfl, rfl, rfl, rfl, rfl, rfl, rfl, rfl, rfl, rfl, rfl, rfl, rfl, rfl, rfl, rfl, rfl, rfl⟩ := Ops.mk.inj hO
    intro pa k
    rfl
  refine run_sound (E := E64 ⟨oW, oA, oS, oM, oBa, oBo, oBx, oBn, oE, oN, oL, oLe, oAnd, oOr, oNot, oBq, oSq, oMx, oMn, oC, oSz, oAd, oIx, oQu, oRe, oSl, oSr⟩ _) TEok hO Tm D64ok (PanicOk.body _ _ _) (Hp.le_refl _) 4000 _ _ ?_
  conv => arg 5; cbv
  simp only [Res.ok]
  refine LoopG.mk [1, 2, 4, 5, 6] (fun y : Nat × Joint × Int => y.1 ≤ l.n ∧ l.cf = cfAt l.b y.1 (l.es.drop y.1) y.2) (fun y => ⟨38, [(1, .t (.c (.p 0 0))), (2, .t (.c (.p 1 0))), (4, .t (.c (.p 2 0))), (5, iV y.2.2), (6, iV y.1)], [], [l.cs.map .v, zJoint.map .v, y.2.1.cs.map .v]⟩)
    (fun _ => Gh.start w H) (fun y => l.n - y.1) (0, l.j, l.b) rfl ⟨_, rfl⟩ ⟨Nat.zero_le _, rfl⟩ rfl rfl ?_
  rintro ⟨k, J, a⟩ ⟨hk, hm⟩
  simp only at hk hm ⊢
  obtain ⟨ki, hki⟩ : ∃ ki : Int, (k : Int) = ki := ⟨_, rfl⟩
  simp only [hki]
  refine run_sound (E := E64 ⟨oW, oA, oS, oM, oBa, oBo, oBx, oBn, oE, oN, oL, oLe, oAnd, oOr, oNot, oBq, oSq, oMx, oMn, oC, oSz, oAd, oIx, oQu, oRe, oSl, oSr⟩ _) TEok hO Tm D64ok (PanicOk.lq (PanicOk.body _ _ _)) (Hp.le_refl _) 4000 _ _ ?_
  conv => arg 5; cbv
  simp only [Res.ok]
  refine ⟨fun hh => ?_, fun hh => ?_⟩
  · have hlt : ki < l.n := by
      obtain ⟨rfl, rfl, rfl, rfl, rfl, rfl, rfl, rfl, rfl, rfl, rfl, rfl, rfl, rfl, rfl, rfl, rfl, rfl, rfl, rfl, rfl, rfl, rfl, rfl, rfl, rfl, rfl⟩ := Ops.mk.inj hO
      simpa [Ops.std] using hh
    obtain ⟨e, ad, e1, k1, q1⟩ := row_at (SVok.lv hl) (k := ki) (by omega) hlt
    have hkn : ki.toNat = k := by omega
    have hst := cfAt_step (b := l.b) (x := (J, a)) (hkn ▸ e1)
    refine ⟨by omega, hlt, ad, k1, fun pa hpa => ⟨_, rfl, ?_⟩⟩
    have hp := q1 pa hpa
    have hk1 : oA .i64 ki 1 = ((k + 1 : Nat) : Int) := by
      obtain ⟨rfl, rfl, rfl, rfl, rfl, rfl, rfl, rfl, rfl, rfl, rfl, rfl, rfl, rfl, rfl, rfl, rfl, rfl, rfl, rfl, rfl, rfl, rfl, rfl, rfl, rfl, rfl⟩ := Ops.mk.inj hO
      rw [← hki]
      exact w64 (by omega) (by omega)
    have hbk : oA .i64 (oA .i64 l.b 1) ki = l.b + 1 + (k : Int) := by
      obtain ⟨rfl, rfl, rfl, rfl, rfl, rfl, rfl, rfl, rfl, rfl, rfl, rfl, rfl, rfl, rfl, rfl, rfl, rfl, rfl, rfl, rfl, rfl, rfl, rfl, rfl, rfl, rfl⟩ := Ops.mk.inj hO
      show IntKind.i64.wrap (IntKind.i64.wrap (l.b + 1) + ki) = _
      rw [w64 (n := l.b + 1) (by omega) (by omega), hki]
      exact w64 (by omega) (by omega)
    change oA .i64 (oA .i64 l.1 1) ki = _ at hbk
    refine run_sound (E := E64 ⟨oW, oA, oS, oM, oBa, oBo, oBx, oBn, oE, oN, oL, oLe, oAnd, oOr, oNot, oBq, oSq, oMx, oMn, oC, oSz, oAd, oIx, oQu, oRe, oSl, oSr⟩ _) TEok hO Tm D64ok (PanicOk.lq (PanicOk.body _ _ _)) (Hp.le_refl _) 4000 _ _ ?_
    conv => arg 5; cbv
    simp only [Res.ok]
    rw [had]
    refine ⟨[.int .i64 e.kind], rfl, one_at (ent_drop hp 1 0 _ rfl), .inr ⟨rfl, _, _, rfl, rfl, ?_⟩⟩
    refine run_sound (E := E64 ⟨oW, oA, oS, oM, oBa, oBo, oBx, oBn, oE, oN, oL, oLe, oAnd, oOr, oNot, oBq, oSq, oMx, oMn, oC, oSz, oAd, oIx, oQu, oRe, oSl, oSr⟩ _) TEok hO Tm D64ok (PanicOk.lq (PanicOk.body _ _ _)) (Hp.le_refl _) 4000 _ _ ?_
    conv => arg 5; cbv
    simp only [Res.ok]
    refine ⟨fun h1 => ?_, fun h1 => ?_⟩
    · change oE e.kind 2 = true at h1
      have h1 : e.kind = 2 := by
        obtain ⟨rfl, rfl, rfl, rfl, rfl, rfl, rfl, rfl, rfl, rfl, rfl, rfl, rfl, rfl, rfl, rfl, rfl, rfl, rfl, rfl, rfl, rfl, rfl, rfl, rfl, rfl, rfl⟩ := Ops.mk.inj hO
        simpa [Ops.std] using h1
      rw [if_pos h1] at hst
      refine ⟨by omega, hlt, ad, k1, fun pa2 hpa2 => ⟨_, rfl, ?_⟩⟩
      have hp2 := q1 pa2 hpa2
      refine run_sound (E := E64 ⟨oW, oA, oS, oM, oBa, oBo, oBx, oBn, oE, oN, oL, oLe, oAnd, oOr, oNot, oBq, oSq, oMx, oMn, oC, oSz, oAd, oIx, oQu, oRe, oSl, oSr⟩ _) TEok hO Tm D64ok (PanicOk.lq (PanicOk.body _ _ _)) (Hp.le_refl _) 4000 _ _ ?_
      conv => arg 5; cbv
      simp only [Res.ok]
      rw [had]
      refine ⟨e.conf.cs, rfl, ent_drop hp2 3, .inl ⟨rfl, _, rfl, ?_⟩⟩
      refine run_sound (E := E64 ⟨oW, oA, oS, oM, oBa, oBo, oBx, oBn, oE, oN, oL, oLe, oAnd, oOr, oNot, oBq, oSq, oMx, oMn, oC, oSz, oAd, oIx, oQu, oRe, oSl, oSr⟩ _) TEok hO Tm D64ok (PanicOk.lq (PanicOk.body _ _ _)) (Hp.le_refl _) 4000 _ _ ?_
      conv => arg 5; cbv
      simp only [Res.ok]
      rw [hbk, hk1]
      exact FinG.round [1, 2, 4, 5, 6] (k + 1, e.conf, l.b + 1 + k) ⟨by simp only; omega, by simp only; rw [hm, hst]⟩ (by show l.n - (k + 1) < l.n - k; omega) rfl rfl
    · change oE e.kind 2 = false at h1
      have h1 : ¬ e.kind = 2 := by
        obtain ⟨rfl, rfl, rfl, rfl, rfl, rfl, rfl, rfl, rfl, rfl, rfl, rfl, rfl, rfl, rfl, rfl, rfl, rfl, rfl, rfl, rfl, rfl, rfl, rfl, rfl, rfl, rfl⟩ := Ops.mk.inj hO
        simpa [Ops.std] using h1
      rw [if_neg h1] at hst
      rw [hk1]
      exact FinG.round [1, 2, 4, 5, 6] (k + 1, J, a) ⟨by simp only; omega, by simp only; rw [hm, hst]⟩ (by show l.n - (k + 1) < l.n - k; omega) rfl rfl
  · have hge : ¬ ki < l.n := by
      obtain ⟨rfl, rfl, rfl, rfl, rfl, rfl, rfl, rfl, rfl, rfl, rfl, rfl, rfl, rfl, rfl, rfl, rfl, rfl, rfl, rfl, rfl, rfl, rfl, rfl, rfl, rfl, rfl⟩ := Ops.mk.inj hO
      simpa [Ops.std] using hh
    refine FinG.leave rfl rfl ?_
    refine run_sound (E := E64 ⟨oW, oA, oS, oM, oBa, oBo, oBx, oBn, oE, oN, oL, oLe, oAnd, oOr, oNot, oBq, oSq, oMx, oMn, oC, oSz, oAd, oIx, oQu, oRe, oSl, oSr⟩ _) TEok hO Tm D64ok (PanicOk.body _ _ _) (Hp.le_refl _) 4000 _ _ ?_
    conv => arg 5; cbv
    simp only [Res.ok]
    refine RetG.pc TEok C64r rfl rfl rfl (fun _ => rfl) ?_
    have hln := hl.1
    rw [hm, List.drop_eq_nil_of_le (by omega)]
    rfl
noncomputable def C38 : Code := fbody Try.f38
theorem C38b : Try.f38.body = some C38 := by kernel_rfl
theorem C38r : Try.f38.results.toList = [.cell 2 29] := by kernel_rfl
def D38 : List (List Nat) := []
theorem D38ok : drOk C38 D38 = true := by kernel_rfl
noncomputable def E38 (O : Ops) (H : Hp) : Env := ⟨O, H, TE, C38, [.cell 2 29], D38⟩
theorem rConf_pc (l : LV) (H : Hp) (hl : l.ok H) (hf : l.fine) : PC Try.prog 38 [aggV l.cs] H fun _ v => v = aggV (confOf l.es l.j).cs := by
  have cA := rConfAt_pc l H hl hf
  have hc := cfAt_conf l.b l.es 0 (l.j, l.b)
  change l.cf.1 = _ at hc
  rw [← show l.cf.1 = confOf l.es l.j from hc]
  obtain ⟨⟨J, a⟩, hJ⟩ : ∃ x, l.cf = x := ⟨_, rfl⟩
  rw [hJ] at cA ⊢
  refine PC.enter [aggT l.cs] Try.func38 C38b rfl 11 Try.ntmps38 (by simp) fun w hw => ?_
  refine ops_open fun oW oA oS oM oBa oBo oBx oBn oE oN oL oLe oAnd oOr oNot oBq oSq oMx oMn oC oSz oAd oIx oQu oRe oSl oSr hO => ?_
  refine run_sound (E := E38 ⟨oW, oA, oS, oM, oBa, oBo, oBx, oBn, oE, oN, oL, oLe, oAnd, oOr, oNot, oBq, oSq, oMx, oMn, oC, oSz, oAd, oIx, oQu, oRe, oSl, oSr⟩ _) TEok hO Tm D38ok (PanicOk.body _ _ _) (Hp.le_refl _) 4000 _ _ ?_
  conv => arg 5; cbv
  simp only [Res.ok]
  refine EvG.pure Try.call64 (fun _ => rfl) (cA) ?_
  rintro H1 v hle1 rfl
  refine ⟨.tup [aggT J.cs, .c (.v (.int .i64 a))], _, fun _ => (by first | exact rfl | exact ⟨_, rfl, rfl⟩ | exact aggT_den _ _), rfl, ?_⟩
  refine run_sound (E := E38 ⟨oW, oA, oS, oM, oBa, oBo, oBx, oBn, oE, oN, oL, oLe, oAnd, oOr, oNot, oBq, oSq, oMx, oMn, oC, oSz, oAd, oIx, oQu, oRe, oSl, oSr⟩ _) TEok hO Tm D38ok (PanicOk.body _ _ _) (Hp.le_refl _) 4000 _ _ ?_
  conv => arg 5; cbv
  simp only [Res.ok]
  exact RetG.pc TEok C38r rfl rfl rfl (fun _ => rfl) rfl
end Go.Sx
