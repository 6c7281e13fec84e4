/- The statement EntriesMerge, walked. -/
import Derived.Test.YtkmplcpibgnjcaaE12
import Derived.Test.YtkmplcpibgnjcaaE13
namespace Go.Sx
open Go.Proofs Go.RowKit

theorem made0 {A : Option Addr} {n c : Nat} {bs : List UInt8} {H : Hp} (hr : Rw H 1 A n (bs.map u8V)) (hn : n ≤ 1000) (H1 : Hp) (hle : Hp.le H H1) :
    PC Try.prog 13 [.slice A n c, .int .i64 0, .int .i64 0] H1 fun H' v => ∃ l' : LV, v = aggV l'.cs ∧ l'.ok H' ∧ l'.b = 0 ∧ l'.bt = 0 ∧ l'.j = .zero ∧ l'.es = madeE 1 bs :=
  made_pc A n c bs 0 0 H1 (hr.mono hle) hn (by decide) (by decide)
theorem slc_len (l : LV) (f m : Int) : (l.slc f m).length ≤ l.es.length := by
  unfold LV.slc
  rw [List.length_take, List.length_drop]
  omega
theorem SameL.of {l m : LV} {es : List Entry} (h : SameBut l m es) (he : es = l.es) : SameL m l := ⟨h.1, h.2.1, h.2.2.1, h.2.2.2.trans he⟩
noncomputable def C6 : Code := fbody Try.f6
theorem C6b : Try.f6.body = some C6 := by kernel_rfl
theorem C6r : Try.f6.results.toList = [.tmp 8] := by kernel_rfl
def D6 : List (List Nat) := [[0, 1, 0, 0, 1, 0, 0, 1, 0, 1, 1, 1, 1, 1, 1, 1, 1, 1, 1, 1]]
theorem D6ok : drOk C6 D6 = true := by kernel_rfl
noncomputable def E6 (O : Ops) (H : Hp) : Env := ⟨O, H, TE, C6, [.tmp 8], D6⟩
set_option maxHeartbeats 1000000 in
set_option maxRecDepth 100000 in
theorem MergeLaw_pc (A1 : Option Addr) (n1 c1 : Nat) (bs1 : List UInt8) (A2 : Option Addr) (n2 c2 : Nat) (bs2 : List UInt8) (prev n : Int) (H : Hp) (hr1 : Rw H 1 A1 n1 (bs1.map u8V)) (hr2 : Rw H 1 A2 n2 (bs2.map u8V)) :
    PC Try.prog 6 [.slice A1 n1 c1, .slice A2 n2 c2, .int .i64 prev, .int .i64 n] H fun _ v => v = .bool true := by
  have hl1 : n1 = bs1.length := by have := hr1.1; simpa using this.symm
  have hl2 : n2 = bs2.length := by have := hr2.1; simpa using this.symm
  refine PC.enter [.c (.v (.slice A1 n1 c1)), .c (.v (.slice A2 n2 c2)), .c (.v (.int .i64 prev)), .c (.v (.int .i64 n))] Try.func6 C6b rfl 181 Try.ntmps6 (by simp) fun w hw => ?_
  refine ops_open fun oW oA oS oM oBa oBo oBx oBn oE oN oL oLe oAnd oOr oNot oBq oSq oMx oMn oC oSz oAd oIx oQu oRe oSl oSr hO => ?_
  have hnt : oNot true = false := by
    obtain ⟨rfl, rfl, rfl, rfl, rfl, rfl, rfl, rfl, rfl, rfl, rfl, rfl, rfl, rfl, rfl, rfl, rfl, rfl, rfl, rfl, rfl, rfl, rfl, rfl, rfl, rfl, rfl⟩ := Ops.mk.inj hO
    rfl
  have hnf : oNot false = true := by
    obtain ⟨rfl, rfl, rfl, rfl, rfl, rfl, rfl, rfl, rfl, rfl, rfl, rfl, rfl, rfl, rfl, rfl, rfl, rfl, rfl, rfl, rfl, rfl, rfl, rfl, rfl, rfl, rfl⟩ := Ops.mk.inj hO
    rfl
  refine run_sound (E := E6 ⟨oW, oA, oS, oM, oBa, oBo, oBx, oBn, oE, oN, oL, oLe, oAnd, oOr, oNot, oBq, oSq, oMx, oMn, oC, oSz, oAd, oIx, oQu, oRe, oSl, oSr⟩ _) TEok hO Tm D6ok (PanicOk.body _ _ _) (Hp.le_refl _) 4000 _ _ ?_
  conv => arg 5; cbv
  simp only [Res.ok]
  refine EvG.pure Try.call12 (fun _ => rfl) (begun_pc _) ?_
  rintro H1 v hle1 rfl
  refine ⟨.kb true, _, fun _ => (by first | exact rfl | exact ⟨_, rfl, rfl⟩ | exact aggT_den _ _), rfl, ?_⟩
  refine run_sound (E := E6 ⟨oW, oA, oS, oM, oBa, oBo, oBx, oBn, oE, oN, oL, oLe, oAnd, oOr, oNot, oBq, oSq, oMx, oMn, oC, oSz, oAd, oIx, oQu, oRe, oSl, oSr⟩ _) TEok hO Tm D6ok (PanicOk.body _ _ _) (Hp.le_refl _) 4000 _ _ ?_
  conv => arg 5; cbv
  simp only [Res.ok]
  refine ⟨fun hh => (by rw [hnt] at hh; cases hh), fun _ => ⟨fun hh => ?_, fun hh => ?_⟩⟩
  · exact RetG.pc TEok C6r rfl rfl rfl (fun _ => rfl) rfl
  have hn : n1 ≤ 40 ∧ n2 ≤ 40 := by
    obtain ⟨rfl, rfl, rfl, rfl, rfl, rfl, rfl, rfl, rfl, rfl, rfl, rfl, rfl, rfl, rfl, rfl, rfl, rfl, rfl, rfl, rfl, rfl, rfl, rfl, rfl, rfl, rfl⟩ := Ops.mk.inj hO
    simp [Ops.std] at hh
    omega
  obtain ⟨hn1, hn2⟩ := hn
  clear hh
  have had0 : ∀ pa, oAd pa 0 = pa := by
    obtain ⟨rfl, rfl, rfl, rfl, rfl, rfl, rfl, rfl, rfl, rfl, rfl, rfl, rfl, rfl, rfl, rfl, rfl, rfl, rfl, rfl, rfl, rfl, rfl, rfl, rfl, rfl, rfl⟩ := Ops.mk.inj hO
    intro pa
    simp [Ops.std, Addr.add]
  refine EvG.pure Try.call13 (fun _ => rfl) (made0 hr1 (by omega) _ hle1) ?_
  rintro H2 v hle2 ⟨l, rfl, hl, hlb, hlbt, -, hle⟩
  refine ⟨.t (aggT l.cs), _, fun _ => (by first | exact rfl | exact ⟨_, rfl, rfl⟩ | exact aggT_den _ _), rfl, ?_⟩
  refine run_sound (E := E6 ⟨oW, oA, oS, oM, oBa, oBo, oBx, oBn, oE, oN, oL, oLe, oAnd, oOr, oNot, oBq, oSq, oMx, oMn, oC, oSz, oAd, oIx, oQu, oRe, oSl, oSr⟩ _) TEok hO Tm D6ok (PanicOk.body _ _ _) (Hp.le_refl _) 4000 _ _ ?_
  conv => arg 5; cbv
  simp only [Res.ok]
  refine EvG.pure Try.call13 (fun _ => rfl) (made0 hr2 (by omega) _ (Hp.le_trans hle1 hle2)) ?_
  rintro H3 v hle3 ⟨o, rfl, ho, hob, hobt, -, hoe⟩
  refine ⟨.t (aggT o.cs), _, fun _ => (by first | exact rfl | exact ⟨_, rfl, rfl⟩ | exact aggT_den _ _), rfl, ?_⟩
  replace hl := hl.mono hle3
  have hln : l.n = n1 := by rw [hl.1, hle, madeE_len, hl1]
  have hon : o.n = n2 := by rw [ho.1, hoe, madeE_len, hl2]
  have hlf : l.fine := ⟨by omega, by omega, by omega⟩
  obtain ⟨q, hq, hq0, hq2⟩ : ∃ q, oMn (oMx prev 0) (oC n2) = q ∧ 0 ≤ q ∧ q ≤ n2 := by
    refine ⟨_, rfl, ?_, ?_⟩
    · obtain ⟨rfl, rfl, rfl, rfl, rfl, rfl, rfl, rfl, rfl, rfl, rfl, rfl, rfl, rfl, rfl, rfl, rfl, rfl, rfl, rfl, rfl, rfl, rfl, rfl, rfl, rfl, rfl⟩ := Ops.mk.inj hO
      show (0 : Int) ≤ if (n2 : Int) < (if 0 > prev then 0 else prev) then (n2 : Int) else if 0 > prev then 0 else prev
      omega
    · obtain ⟨rfl, rfl, rfl, rfl, rfl, rfl, rfl, rfl, rfl, rfl, rfl, rfl, rfl, rfl, rfl, rfl, rfl, rfl, rfl, rfl, rfl, rfl, rfl, rfl, rfl, rfl, rfl⟩ := Ops.mk.inj hO
      show (if (n2 : Int) < (if 0 > prev then 0 else prev) then (n2 : Int) else if 0 > prev then 0 else prev) ≤ n2
      omega
  have cT := fun (H' : Hp) (h : Hp.le H3 H') => Term_pc o q H' (ho.mono h)
  obtain ⟨⟨tt, ti⟩, hti⟩ : ∃ x, o.term q = x := ⟨_, rfl⟩
  rw [hti] at cT
  have hc := Hp.le_refl H3
  refine run_sound (E := E6 ⟨oW, oA, oS, oM, oBa, oBo, oBx, oBn, oE, oN, oL, oLe, oAnd, oOr, oNot, oBq, oSq, oMx, oMn, oC, oSz, oAd, oIx, oQu, oRe, oSl, oSr⟩ _) TEok hO Tm D6ok (PanicOk.body _ _ _) (Hp.le_refl _) 4000 _ _ ?_
  conv => arg 5; cbv
  simp only [Res.ok]
  rw [hq]
  refine EvG.pure Try.call17 (fun _ => rfl) (cT _ hc) ?_
  rintro H4 v hle4 rfl
  refine ⟨.tup [.c (.v (.int .i64 tt)), .c (.v (.bool ti))], _, fun _ => (by first | exact rfl | exact ⟨_, rfl, rfl⟩ | exact aggT_den _ _), rfl, ?_⟩
  replace hc := Hp.le_trans hc hle4
  obtain ⟨q1, hq1⟩ : ∃ q1, oA .i64 q 1 = q1 := ⟨_, rfl⟩
  obtain ⟨nn, hnn⟩ : ∃ nn, oMn (oMx n 0) 40 = nn := ⟨_, rfl⟩
  refine run_sound (E := E6 ⟨oW, oA, oS, oM, oBa, oBo, oBx, oBn, oE, oN, oL, oLe, oAnd, oOr, oNot, oBq, oSq, oMx, oMn, oC, oSz, oAd, oIx, oQu, oRe, oSl, oSr⟩ _) TEok hO Tm D6ok (PanicOk.body _ _ _) (Hp.le_refl _) 4000 _ _ ?_
  conv => arg 5; cbv
  simp only [Res.ok]
  rw [hq1, hnn]
  have hsl := slc_len o q1 nn
  have cS := Slice_pc o q1 nn H4 (ho.mono hc) (by omega)
  generalize o.slc q1 nn = es at *
  have hes : es.length ≤ 40 := by rw [← ho.1] at hsl; omega
  obtain ⟨ne, hne⟩ : ∃ ne, es.length = ne := ⟨_, rfl⟩
  rw [hne] at cS
  refine EvG.pure Try.call29 (fun _ => rfl) (cS) ?_
  rintro H5 v hle5 ⟨A', c', rfl, hes5⟩
  refine ⟨.t (.c (.v (.slice A' ne c'))), _, fun _ => (by first | exact rfl | exact ⟨_, rfl, rfl⟩ | exact aggT_den _ _), rfl, ?_⟩
  replace hc := Hp.le_trans hc hle5
  have cM := Merge_pc l q tt A' ne c' es H5 (hl.mono hc) hlf hes5 ⟨by omega, by omega⟩ (by omega)
  refine run_sound (E := E6 ⟨oW, oA, oS, oM, oBa, oBo, oBx, oBn, oE, oN, oL, oLe, oAnd, oOr, oNot, oBq, oSq, oMx, oMn, oC, oSz, oAd, oIx, oQu, oRe, oSl, oSr⟩ _) TEok hO Tm D6ok (PanicOk.body _ _ _) (Hp.le_refl _) 4000 _ _ ?_
  conv => arg 5; cbv
  simp only [Res.ok]
  have hqq : q1 = q + 1 := by
    rw [← hq1]
    obtain ⟨rfl, rfl, rfl, rfl, rfl, rfl, rfl, rfl, rfl, rfl, rfl, rfl, rfl, rfl, rfl, rfl, rfl, rfl, rfl, rfl, rfl, rfl, rfl, rfl, rfl, rfl, rfl⟩ := Ops.mk.inj hO
    exact w64 (by omega) (by omega)
  obtain ⟨last, hlast⟩ : ∃ x : Int, q + (es.length : Int) = x := ⟨_, rfl⟩
  unfold MergeR at cM
  rw [hlast] at cM
  refine EvG.pure Try.call18 (fun _ => rfl) cM ?_
  rintro H6 v hle6 (⟨hbad, m, rfl, hm, hs⟩ | ⟨hgood, m, rfl, hm, hs⟩)
  · have hc6 := Hp.le_trans hc hle6
    have cT2 := Term_pc l q H6 (hl.mono hc6)
    obtain ⟨⟨lt, li⟩, hlt⟩ : ∃ x, l.term q = x := ⟨_, rfl⟩
    rw [hlt] at cT2
    have hno : ¬ (li = true ∧ lt = tt) := by
      rintro ⟨rfl, rfl⟩
      unfold mergeBad at hbad
      rw [hlt] at hbad
      have h1 := LV.term_is (i := q) hlf ⟨by omega, by omega⟩
      rw [hlt] at h1
      have h2 : l.b ≤ q ∧ q ≤ l.b + l.n := by simpa using h1.symm
      rcases hbad with h | h | h | h
      · omega
      · omega
      · exact h.2 ⟨rfl, rfl⟩
      · omega
    refine ⟨.tup [aggT m.cs, .c (.v (.int .i64 0)), .c (.v (.bool false))], _, fun _ => ⟨_, rfl, rfl⟩, rfl, ?_⟩
    refine run_sound (E := E6 ⟨oW, oA, oS, oM, oBa, oBo, oBx, oBn, oE, oN, oL, oLe, oAnd, oOr, oNot, oBq, oSq, oMx, oMn, oC, oSz, oAd, oIx, oQu, oRe, oSl, oSr⟩ _) TEok hO Tm D6ok (PanicOk.body _ _ _) (Hp.le_refl _) 4000 _ _ ?_
    conv => arg 5; cbv
    simp only [Res.ok]
    refine ⟨fun _ => ?_, fun hh => (by rw [hnf] at hh; cases hh)⟩
    refine EvG.pure Try.call17 (fun _ => rfl) (cT2) ?_
    rintro H7 v hle7 rfl
    refine ⟨.tup [.c (.v (.int .i64 lt)), .c (.v (.bool li))], _, fun _ => (by first | exact rfl | exact ⟨_, rfl, rfl⟩ | exact aggT_den _ _), rfl, ?_⟩
    refine run_sound (E := E6 ⟨oW, oA, oS, oM, oBa, oBo, oBx, oBn, oE, oN, oL, oLe, oAnd, oOr, oNot, oBq, oSq, oMx, oMn, oC, oSz, oAd, oIx, oQu, oRe, oSl, oSr⟩ _) TEok hO Tm D6ok (PanicOk.body _ _ _) (Hp.le_refl _) 4000 _ _ ?_
    conv => arg 5; cbv
    simp only [Res.ok]
    refine RetG.pc TEok C6r rfl rfl rfl (fun _ => rfl) ?_
    refine congrArg Value.bool ?_
    obtain ⟨rfl, rfl, rfl, rfl, rfl, rfl, rfl, rfl, rfl, rfl, rfl, rfl, rfl, rfl, rfl, rfl, rfl, rfl, rfl, rfl, rfl, rfl, rfl, rfl, rfl, rfl, rfl⟩ := Ops.mk.inj hO
    revert hno
    cases li <;> simp [Ops.std]
  have hc6 := Hp.le_trans hc hle6
  have hmb := hs.1
  have hmbt := hs.2.1
  have hbq : ¬ (q > l.b + l.n) := fun h => hgood (.inl h)
  have hmes : m.es.length ≤ 80 := by
    rw [hs.2.2.2, mergeEs_hi (by omega)]
    split
    · rw [← hl.1]; omega
    · rw [List.length_append, List.length_take, List.length_drop, ← hl.1]; omega
  have hmf : m.fine := ⟨by omega, by omega, by rw [hm.1]; omega⟩
  have hM := merged hlf hl.1 hm.1 hmf (by omega) (by omega) (by omega) hs
  obtain ⟨hgood2, hagain⟩ := merged_again (t := tt) hmf (by omega) hq0 (by omega) ⟨by omega, by omega⟩ hmb hM hgood
  have cM2 := Merge_pc m q tt A' ne c' es H6 hm hmf (hes5.mono hle6) ⟨by omega, by omega⟩ (by rw [hm.1]; omega)
  unfold MergeR at cM2
  rw [hlast] at cM2
  have hmn := hM.len
  refine ⟨.tup [aggT m.cs, .c (.v (.int .i64 last)), .c (.v (.bool true))], _, fun _ => ⟨_, rfl, rfl⟩, rfl, ?_⟩
  refine run_sound (E := E6 ⟨oW, oA, oS, oM, oBa, oBo, oBx, oBn, oE, oN, oL, oLe, oAnd, oOr, oNot, oBq, oSq, oMx, oMn, oC, oSz, oAd, oIx, oQu, oRe, oSl, oSr⟩ _) TEok hO Tm D6ok (PanicOk.body _ _ _) (Hp.le_refl _) 4000 _ _ ?_
  conv => arg 5; cbv
  simp only [Res.ok]
  refine ⟨fun hh => (by rw [hnt] at hh; cases hh), fun _ => ?_⟩
  refine EvG.pure Try.call18 (fun _ => rfl) cM2 ?_
  rintro H7 v hle7 (⟨hbad, _⟩ | ⟨_, x, rfl, hx, hxs⟩)
  · exact absurd hbad hgood2
  rw [hagain] at hxs
  have hsame : SameL x m := SameL.of hxs rfl
  replace hm := hm.mono hle7
  have cS2 := Same_true x m H7 hx hm (by rw [hx.1, hxs.2.2.2]; omega) hsame
  obtain ⟨mw, hmw⟩ : ∃ x, m.lastW = x := ⟨_, rfl⟩
  have cL := fun H' => Last_pc m H'
  rw [hmw] at cL
  rw [LV.lastW_eq hmf] at hmw
  refine ⟨.tup [aggT x.cs, .c (.v (.int .i64 last)), .c (.v (.bool true))], _, fun _ => ⟨_, rfl, rfl⟩, rfl, ?_⟩
  refine run_sound (E := E6 ⟨oW, oA, oS, oM, oBa, oBo, oBx, oBn, oE, oN, oL, oLe, oAnd, oOr, oNot, oBq, oSq, oMx, oMn, oC, oSz, oAd, oIx, oQu, oRe, oSl, oSr⟩ _) TEok hO Tm D6ok (PanicOk.body _ _ _) (Hp.le_refl _) 4000 _ _ ?_
  conv => arg 5; cbv
  simp only [Res.ok]
  have hlast2 : oA .i64 q (oC ne) = last := by
    rw [← hlast, hne]
    obtain ⟨rfl, rfl, rfl, rfl, rfl, rfl, rfl, rfl, rfl, rfl, rfl, rfl, rfl, rfl, rfl, rfl, rfl, rfl, rfl, rfl, rfl, rfl, rfl, rfl, rfl, rfl, rfl⟩ := Ops.mk.inj hO
    exact w64 (by show -9223372036854775808 ≤ q + (ne : Int); omega) (by show q + (ne : Int) ≤ 9223372036854775807; omega)
  rw [hlast2]
  refine ⟨fun hh => ?_, fun _ => ?_⟩
  · exfalso
    revert hh
    obtain ⟨rfl, rfl, rfl, rfl, rfl, rfl, rfl, rfl, rfl, rfl, rfl, rfl, rfl, rfl, rfl, rfl, rfl, rfl, rfl, rfl, rfl, rfl, rfl, rfl, rfl, rfl, rfl⟩ := Ops.mk.inj hO
    simp [Ops.std]
  refine EvG.pure Try.call19 (fun _ => rfl) (cS2) ?_
  rintro H8 v hle8 rfl
  refine ⟨.kb true, _, fun _ => (by first | exact rfl | exact ⟨_, rfl, rfl⟩ | exact aggT_den _ _), rfl, ?_⟩
  refine run_sound (E := E6 ⟨oW, oA, oS, oM, oBa, oBo, oBx, oBn, oE, oN, oL, oLe, oAnd, oOr, oNot, oBq, oSq, oMx, oMn, oC, oSz, oAd, oIx, oQu, oRe, oSl, oSr⟩ _) TEok hO Tm D6ok (PanicOk.body _ _ _) (Hp.le_refl _) 4000 _ _ ?_
  conv => arg 5; cbv
  simp only [Res.ok]
  refine ⟨fun hh => (by rw [hnt] at hh; cases hh), fun _ => ?_⟩
  refine EvG.pure Try.call15 (fun _ => rfl) (cL _) ?_
  rintro H9 v hle9 rfl
  refine ⟨.t (.c (.v (.int .i64 mw))), _, fun _ => (by first | exact rfl | exact ⟨_, rfl, rfl⟩ | exact aggT_den _ _), rfl, ?_⟩
  refine run_sound (E := E6 ⟨oW, oA, oS, oM, oBa, oBo, oBx, oBn, oE, oN, oL, oLe, oAnd, oOr, oNot, oBq, oSq, oMx, oMn, oC, oSz, oAd, oIx, oQu, oRe, oSl, oSr⟩ _) TEok hO Tm D6ok (PanicOk.body _ _ _) (Hp.le_refl _) 4000 _ _ ?_
  conv => arg 5; cbv
  simp only [Res.ok]
  refine ⟨fun hh => ?_, fun _ => ?_⟩
  · exfalso
    have hml : ¬ mw < last := by omega
    revert hh
    obtain ⟨rfl, rfl, rfl, rfl, rfl, rfl, rfl, rfl, rfl, rfl, rfl, rfl, rfl, rfl, rfl, rfl, rfl, rfl, rfl, rfl, rfl, rfl, rfl, rfl, rfl, rfl, rfl⟩ := Ops.mk.inj hO
    simpa [Ops.std] using hml
  rw [hq1]
  replace hm := hm.mono (Hp.le_trans hle8 hle9)
  have hes9 : SVok H9 A' ne c' es := hes5.mono (Hp.le_trans hle6 (Hp.le_trans hle7 (Hp.le_trans hle8 hle9)))
  replace hl := hl.mono (Hp.le_trans hc6 (Hp.le_trans hle7 (Hp.le_trans hle8 hle9)))
  clear cT cS cM cM2 cS2 cL
  have hll : last = q + ne := by rw [← hlast, hne]
  refine LoopG.mk [2, 9, 13, 14, 15, 22] (fun y : Nat × Hp => y.1 ≤ ne ∧ Hp.le H9 y.2)
    (fun y => ⟨181, [(2, iV q), (9, .t (.c (.p 0 0))), (13, SlV A' ne c'), (14, .t (.c (.p 2 0))), (15, iV last), (22, iV (q1 + y.1))], [], [l.cs.map .v, o.cs.map .v, m.cs.map .v, x.cs.map .v]⟩)
    (fun y => (Gh.start w H).seth y.2) (fun y => ne - y.1) (0, H9) rfl ⟨_, rfl⟩ ⟨Nat.zero_le _, Hp.le_refl _⟩ (by rw [show q1 + ((0 : Nat) : Int) = q1 by omega]; rfl) rfl ?_
  rintro ⟨j, HA⟩ ⟨hj, hleA⟩
  simp only at hj hleA ⊢
  obtain ⟨i, hi⟩ : ∃ i : Int, q1 + (j : Int) = i := ⟨_, rfl⟩
  rw [hi]
  refine run_sound (E := E6 ⟨oW, oA, oS, oM, oBa, oBo, oBx, oBn, oE, oN, oL, oLe, oAnd, oOr, oNot, oBq, oSq, oMx, oMn, oC, oSz, oAd, oIx, oQu, oRe, oSl, oSr⟩ _) TEok hO Tm D6ok (PanicOk.lq (PanicOk.body _ _ _)) (Hp.le_refl _) 4000 _ _ ?_
  conv => arg 5; cbv
  simp only [Res.ok]
  refine ⟨fun hh => ?_, fun hh => ?_⟩
  · have hjn : j < ne := by
      have hh : i ≤ last := by
        obtain ⟨rfl, rfl, rfl, rfl, rfl, rfl, rfl, rfl, rfl, rfl, rfl, rfl, rfl, rfl, rfl, rfl, rfl, rfl, rfl, rfl, rfl, rfl, rfl, rfl, rfl, rfl, rfl⟩ := Ops.mk.inj hO
        simpa [Ops.std] using hh
      omega
    have hje : j < es.length := by omega
    have hup := hM.up j es[j] (List.getElem?_eq_getElem hje)
    unfold agr at hup
    rw [show q + 1 + (j : Int) = i by omega] at hup
    have hAt := At_pc m i HA (hm.mono hleA)
    unfold LV.term at hup
    rw [if_neg (by omega)] at hup
    obtain ⟨⟨ea, ia⟩, hea⟩ : ∃ y, m.at i = y := ⟨_, rfl⟩
    rw [hea] at hAt hup
    have hterm : ea.term = es[j].term := congrArg Prod.fst hup
    refine EvG.pure Try.call30 (fun _ => rfl) (hAt) ?_
    rintro HB v hleB rfl
    refine ⟨.tup [aggT ea.cs, .c (.v (.bool ia))], _, fun _ => (by first | exact rfl | exact ⟨_, rfl, rfl⟩ | exact aggT_den _ _), rfl, ?_⟩
    obtain ⟨ji, hji⟩ : ∃ ji : Int, (j : Int) = ji := ⟨_, rfl⟩
    have hsub : oS .i64 (oS .i64 i q) 1 = ji := by
      obtain ⟨rfl, rfl, rfl, rfl, rfl, rfl, rfl, rfl, rfl, rfl, rfl, rfl, rfl, rfl, rfl, rfl, rfl, rfl, rfl, rfl, rfl, rfl, rfl, rfl, rfl, rfl, rfl⟩ := Ops.mk.inj hO
      show IntKind.i64.wrap (IntKind.i64.wrap (i - q) - 1) = ji
      rw [w64 (n := i - q) (by omega) (by omega)]
      rw [w64 (by omega) (by omega)]
      omega
    obtain ⟨e1, ad1, g1, k1, w1⟩ := row_at (hes9.mono (Hp.le_trans hleA hleB)) (k := ji) (by omega) (by omega)
    have he1 : e1 = es[j] := by
      rw [← hji, Int.toNat_natCast, List.getElem?_eq_getElem hje] at g1
      exact (Option.some.inj g1).symm
    have hi1 : oA .i64 i 1 = q1 + ((j + 1 : Nat) : Int) := by
      obtain ⟨rfl, rfl, rfl, rfl, rfl, rfl, rfl, rfl, rfl, rfl, rfl, rfl, rfl, rfl, rfl, rfl, rfl, rfl, rfl, rfl, rfl, rfl, rfl, rfl, rfl, rfl, rfl⟩ := Ops.mk.inj hO
      rw [show q1 + ((j + 1 : Nat) : Int) = i + 1 by omega]
      exact w64 (by omega) (by omega)
    refine run_sound (E := E6 ⟨oW, oA, oS, oM, oBa, oBo, oBx, oBn, oE, oN, oL, oLe, oAnd, oOr, oNot, oBq, oSq, oMx, oMn, oC, oSz, oAd, oIx, oQu, oRe, oSl, oSr⟩ _) TEok hO Tm D6ok (PanicOk.lq (PanicOk.body _ _ _)) (Hp.le_refl _) 4000 _ _ ?_
    conv => arg 5; cbv
    simp only [Res.ok]
    rw [hsub]
    refine ⟨by omega, by omega, ad1, k1, fun pa hpa => ⟨_, rfl, ?_⟩⟩
    have hp := w1 pa hpa 0 _ rfl
    refine run_sound (E := E6 ⟨oW, oA, oS, oM, oBa, oBo, oBx, oBn, oE, oN, oL, oLe, oAnd, oOr, oNot, oBq, oSq, oMx, oMn, oC, oSz, oAd, oIx, oQu, oRe, oSl, oSr⟩ _) TEok hO Tm D6ok (PanicOk.lq (PanicOk.body _ _ _)) (Hp.le_refl _) 4000 _ _ ?_
    conv => arg 5; cbv
    simp only [Res.ok]
    refine ⟨[.int .i64 e1.term], rfl, fun jj v hv => ?_, .inr ⟨rfl, _, _, rfl, rfl, ?_⟩⟩
    · cases jj with
      | zero =>
        simp at hv; subst hv
        show hat HB (oAd pa 0) 0 = _
        rw [had0]; exact hp
      | succ jj => simp at hv
    refine run_sound (E := E6 ⟨oW, oA, oS, oM, oBa, oBo, oBx, oBn, oE, oN, oL, oLe, oAnd, oOr, oNot, oBq, oSq, oMx, oMn, oC, oSz, oAd, oIx, oQu, oRe, oSl, oSr⟩ _) TEok hO Tm D6ok (PanicOk.lq (PanicOk.body _ _ _)) (Hp.le_refl _) 4000 _ _ ?_
    conv => arg 5; cbv
    simp only [Res.ok]
    refine ⟨fun hh2 => ?_, fun _ => ?_⟩
    · exfalso
      rw [← he1] at hterm
      revert hh2
      obtain ⟨rfl, rfl, rfl, rfl, rfl, rfl, rfl, rfl, rfl, rfl, rfl, rfl, rfl, rfl, rfl, rfl, rfl, rfl, rfl, rfl, rfl, rfl, rfl, rfl, rfl, rfl, rfl⟩ := Ops.mk.inj hO
      simp [Ops.std]
      exact hterm
    rw [hi1]
    exact FinG.roundB [2, 9, 13, 14, 15, 22] 4 (j + 1, HB) ⟨hjn, Hp.le_trans hleA hleB⟩ (by show ne - (j + 1) < ne - j; omega) rfl rfl rfl rfl
  · have hjn : j = ne := by
      have hh : ¬ i ≤ last := by
        obtain ⟨rfl, rfl, rfl, rfl, rfl, rfl, rfl, rfl, rfl, rfl, rfl, rfl, rfl, rfl, rfl, rfl, rfl, rfl, rfl, rfl, rfl, rfl, rfl, rfl, rfl, rfl, rfl⟩ := Ops.mk.inj hO
        simpa [Ops.std] using hh
      omega
    replace hm := hm.mono hleA
    replace hl := hl.mono hleA
    have hesA := hes9.mono hleA
    refine FinG.leave rfl rfl ?_
    refine run_sound (E := E6 ⟨oW, oA, oS, oM, oBa, oBo, oBx, oBn, oE, oN, oL, oLe, oAnd, oOr, oNot, oBq, oSq, oMx, oMn, oC, oSz, oAd, oIx, oQu, oRe, oSl, oSr⟩ _) TEok hO Tm D6ok (PanicOk.body _ _ _) (Hp.le_refl _) 4000 _ _ ?_
    conv => arg 5; cbv
    simp only [Res.ok]
    rw [hq1]
    clear hh
    refine LoopG.mk [2, 9, 13, 14, 15, 25, 26] (fun y : Nat × Bool × Hp => y.1 ≤ ne ∧ Hp.le HA y.2.2 ∧ (y.2.1 = true → ∀ i e, i < y.1 → es[i]? = some e → agr l q i e))
      (fun y => ⟨181, [(2, iV q), (9, .t (.c (.p 0 0))), (13, SlV A' ne c'), (14, .t (.c (.p 2 0))), (15, iV last), (25, .t (.c (.v (.bool y.2.1)))), (26, iV (q1 + y.1))], [], [l.cs.map .v, o.cs.map .v, m.cs.map .v, x.cs.map .v]⟩)
      (fun y => (Gh.start w H).seth y.2.2) (fun y => ne - y.1) (0, true, HA) rfl ⟨_, rfl⟩ ⟨Nat.zero_le _, Hp.le_refl _, fun _ i e hi => by omega⟩ (by rw [show q1 + ((0 : Nat) : Int) = q1 by omega]; rfl) rfl ?_
    rintro ⟨j, s, HB⟩ ⟨hj, hleB, hall⟩
    simp only at hj hleB hall ⊢
    obtain ⟨i, hi⟩ : ∃ i : Int, q1 + (j : Int) = i := ⟨_, rfl⟩
    rw [hi]
    refine run_sound (E := E6 ⟨oW, oA, oS, oM, oBa, oBo, oBx, oBn, oE, oN, oL, oLe, oAnd, oOr, oNot, oBq, oSq, oMx, oMn, oC, oSz, oAd, oIx, oQu, oRe, oSl, oSr⟩ _) TEok hO Tm D6ok (PanicOk.lq (PanicOk.body _ _ _)) (Hp.le_refl _) 4000 _ _ ?_
    conv => arg 5; cbv
    simp only [Res.ok]
    refine ⟨fun h2h => ?_, fun h2h => ?_⟩
    · have hjn : j < ne := by
        have hh : i ≤ last := by
          obtain ⟨rfl, rfl, rfl, rfl, rfl, rfl, rfl, rfl, rfl, rfl, rfl, rfl, rfl, rfl, rfl, rfl, rfl, rfl, rfl, rfl, rfl, rfl, rfl, rfl, rfl, rfl, rfl⟩ := Ops.mk.inj hO
          simpa [Ops.std] using h2h
        omega
      have hje : j < es.length := by omega
      have cT := Term_pc l i HB (hl.mono hleB)
      obtain ⟨⟨lt, li⟩, hlt⟩ : ∃ y, l.term i = y := ⟨_, rfl⟩
      rw [hlt] at cT
      refine EvG.pure Try.call17 (fun _ => rfl) (cT) ?_
      rintro HC v hleC rfl
      refine ⟨.tup [.c (.v (.int .i64 lt)), .c (.v (.bool li))], _, fun _ => (by first | exact rfl | exact ⟨_, rfl, rfl⟩ | exact aggT_den _ _), rfl, ?_⟩
      obtain ⟨ji, hji⟩ : ∃ ji : Int, (j : Int) = ji := ⟨_, rfl⟩
      have hsub : oS .i64 (oS .i64 i q) 1 = ji := by
        obtain ⟨rfl, rfl, rfl, rfl, rfl, rfl, rfl, rfl, rfl, rfl, rfl, rfl, rfl, rfl, rfl, rfl, rfl, rfl, rfl, rfl, rfl, rfl, rfl, rfl, rfl, rfl, rfl⟩ := Ops.mk.inj hO
        show IntKind.i64.wrap (IntKind.i64.wrap (i - q) - 1) = ji
        rw [w64 (n := i - q) (by omega) (by omega)]
        rw [w64 (by omega) (by omega)]
        omega
      obtain ⟨e1, ad1, g1, k1, w1⟩ := row_at (hesA.mono (Hp.le_trans hleB hleC)) (k := ji) (by omega) (by omega)
      have he1 : es[j]? = some e1 := by
        rw [← hji, Int.toNat_natCast] at g1
        exact g1
      have hi1 : oA .i64 i 1 = q1 + ((j + 1 : Nat) : Int) := by
        obtain ⟨rfl, rfl, rfl, rfl, rfl, rfl, rfl, rfl, rfl, rfl, rfl, rfl, rfl, rfl, rfl, rfl, rfl, rfl, rfl, rfl, rfl, rfl, rfl, rfl, rfl, rfl, rfl⟩ := Ops.mk.inj hO
        rw [show q1 + ((j + 1 : Nat) : Int) = i + 1 by omega]
        exact w64 (by omega) (by omega)
      refine run_sound (E := E6 ⟨oW, oA, oS, oM, oBa, oBo, oBx, oBn, oE, oN, oL, oLe, oAnd, oOr, oNot, oBq, oSq, oMx, oMn, oC, oSz, oAd, oIx, oQu, oRe, oSl, oSr⟩ _) TEok hO Tm D6ok (PanicOk.lq (PanicOk.body _ _ _)) (Hp.le_refl _) 4000 _ _ ?_
      conv => arg 5; cbv
      simp only [Res.ok]
      refine ⟨fun hs1 => ?_, fun hs1 => ?_⟩
      · rw [hsub]
        refine ⟨by omega, by omega, ad1, k1, fun pa hpa => ⟨_, rfl, ?_⟩⟩
        have hp := w1 pa hpa 0 _ rfl
        refine run_sound (E := E6 ⟨oW, oA, oS, oM, oBa, oBo, oBx, oBn, oE, oN, oL, oLe, oAnd, oOr, oNot, oBq, oSq, oMx, oMn, oC, oSz, oAd, oIx, oQu, oRe, oSl, oSr⟩ _) TEok hO Tm D6ok (PanicOk.lq (PanicOk.body _ _ _)) (Hp.le_refl _) 4000 _ _ ?_
        conv => arg 5; cbv
        simp only [Res.ok]
        refine ⟨[.int .i64 e1.term], rfl, fun jj v hv => ?_, .inr ⟨rfl, _, _, rfl, rfl, ?_⟩⟩
        · cases jj with
          | zero =>
            simp at hv; subst hv
            show hat HC (oAd pa 0) 0 = _
            rw [had0]; exact hp
          | succ jj => simp at hv
        refine run_sound (E := E6 ⟨oW, oA, oS, oM, oBa, oBo, oBx, oBn, oE, oN, oL, oLe, oAnd, oOr, oNot, oBq, oSq, oMx, oMn, oC, oSz, oAd, oIx, oQu, oRe, oSl, oSr⟩ _) TEok hO Tm D6ok (PanicOk.lq (PanicOk.body _ _ _)) (Hp.le_refl _) 4000 _ _ ?_
        conv => arg 5; cbv
        simp only [Res.ok]
        rw [hi1]
        refine FinG.round [2, 9, 13, 14, 15, 25, 26] (j + 1, oE lt e1.term, HC) ⟨hjn, Hp.le_trans hleB hleC, fun hs2 i' e' hi' he' => ?_⟩ (by show ne - (j + 1) < ne - j; omega) rfl rfl
        have hsl : s = true ∧ li = true := by
          obtain ⟨rfl, rfl, rfl, rfl, rfl, rfl, rfl, rfl, rfl, rfl, rfl, rfl, rfl, rfl, rfl, rfl, rfl, rfl, rfl, rfl, rfl, rfl, rfl, rfl, rfl, rfl, rfl⟩ := Ops.mk.inj hO
          simpa [Ops.std] using hs1
        rcases Nat.lt_succ_iff_lt_or_eq.1 hi' with h | h
        · exact hall hsl.1 i' e' h he'
        · subst h
          rw [he1] at he'
          cases he'
          unfold agr
          rw [show q + 1 + (i' : Int) = i by omega, hlt, hsl.2]
          have : lt = e1.term := by
            change oE lt e1.term = true at hs2
            obtain ⟨rfl, rfl, rfl, rfl, rfl, rfl, rfl, rfl, rfl, rfl, rfl, rfl, rfl, rfl, rfl, rfl, rfl, rfl, rfl, rfl, rfl, rfl, rfl, rfl, rfl, rfl, rfl⟩ := Ops.mk.inj hO
            simpa [Ops.std] using hs2
          rw [this]
      · rw [hi1]
        exact FinG.round [2, 9, 13, 14, 15, 25, 26] (j + 1, false, HC) ⟨hjn, Hp.le_trans hleB hleC, fun hs2 => by cases hs2⟩ (by show ne - (j + 1) < ne - j; omega) rfl rfl
    · have hjn : j = ne := by
        have hh : ¬ i ≤ last := by
          obtain ⟨rfl, rfl, rfl, rfl, rfl, rfl, rfl, rfl, rfl, rfl, rfl, rfl, rfl, rfl, rfl, rfl, rfl, rfl, rfl, rfl, rfl, rfl, rfl, rfl, rfl, rfl, rfl⟩ := Ops.mk.inj hO
          simpa [Ops.std] using h2h
        omega
      refine FinG.leave rfl rfl ?_
      refine run_sound (E := E6 ⟨oW, oA, oS, oM, oBa, oBo, oBx, oBn, oE, oN, oL, oLe, oAnd, oOr, oNot, oBq, oSq, oMx, oMn, oC, oSz, oAd, oIx, oQu, oRe, oSl, oSr⟩ _) TEok hO Tm D6ok (PanicOk.body _ _ _) (Hp.le_refl _) 4000 _ _ ?_
      conv => arg 5; cbv
      simp only [Res.ok]
      refine ⟨fun hs1 => ?_, fun hs1 => ?_⟩
      · refine RetG.pc TEok C6r rfl rfl rfl (fun _ => rfl) ?_
        exact congrArg Value.bool (by first | rfl | exact hs1)
      · have hst : s = true := by
          cases s
          · rw [hnf] at hs1; cases hs1
          · rfl
        have hnone : mism l q 0 es = none := (mism_none es 0).2 fun j' e' he' => by
          rw [Nat.zero_add]
          exact hall hst j' e' (by have := (List.getElem?_eq_some_iff.1 he').1; omega) he'
        have hmle : m.es = l.es := by
          have := hs.2.2.2
          rw [mergeEs_hi (by omega), hnone] at this
          exact this
        have cS3 := Same_true m l HB (hm.mono hleB) (hl.mono hleB) (by rw [hm.1]; omega) ⟨hmb, hmbt, hs.2.2.1, hmle⟩
        refine EvG.pure Try.call19 (fun _ => rfl) (cS3) ?_
        rintro HC v hleC rfl
        refine ⟨.kb true, _, fun _ => (by first | exact rfl | exact ⟨_, rfl, rfl⟩ | exact aggT_den _ _), rfl, ?_⟩
        refine run_sound (E := E6 ⟨oW, oA, oS, oM, oBa, oBo, oBx, oBn, oE, oN, oL, oLe, oAnd, oOr, oNot, oBq, oSq, oMx, oMn, oC, oSz, oAd, oIx, oQu, oRe, oSl, oSr⟩ _) TEok hO Tm D6ok (PanicOk.body _ _ _) (Hp.le_refl _) 4000 _ _ ?_
        conv => arg 5; cbv
        simp only [Res.ok]
        refine RetG.pc TEok C6r rfl rfl rfl (fun _ => rfl) ?_
        first
          | rfl
          | (refine congrArg Value.bool ?_
             obtain ⟨rfl, rfl, rfl, rfl, rfl, rfl, rfl, rfl, rfl, rfl, rfl, rfl, rfl, rfl, rfl, rfl, rfl, rfl, rfl, rfl, rfl, rfl, rfl, rfl, rfl, rfl, rfl⟩ := Ops.mk.inj hO
             simp [Ops.std])
end Go.Sx
