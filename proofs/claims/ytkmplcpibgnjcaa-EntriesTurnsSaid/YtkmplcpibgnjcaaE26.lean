/- The statement EntriesTurns, walked. -/
import Derived.Test.YtkmplcpibgnjcaaSxV
import Derived.Test.YtkmplcpibgnjcaaE24
import Derived.Test.YtkmplcpibgnjcaaE25
import Derived.Test.YtkmplcpibgnjcaaE8
namespace Go.Sx
open Go.Proofs Go.RowKit

theorem MayL.fine {l : LV} (h : MayL l) (hn : l.n ≤ 1048576) : l.fine := ⟨h.1.1, h.1.2.1, hn⟩
theorem Hp.le_drop {H H' : Hp} {b : Nat} (h : Hp.le H H') (hb : ∀ o, H b o = none) : Hp.le H (H'.drop b) := fun b' o v hv => by
  have hne : b' ≠ b := fun e => by subst e; rw [hb o] at hv; cases hv
  rw [Hp.drop_ne hne]
  exact h b' o v hv
/-- a row that was known is not where nothing was known -/
theorem SVok.ne {H : Hp} {A : Option Addr} {n c b : Nat} {es : List Entry} (h : SVok H A n c es) (hb : ∀ o, H b o = none) {b' : Nat} (e1 : A = some ⟨b', 0, none⟩) (hn : 0 < n) : b' ≠ b := by
  intro e
  obtain ⟨h1, h2, h3⟩ := h
  obtain ⟨e0, he0⟩ : ∃ e0, es[0]? = some e0 := ⟨es[0]'(by omega), List.getElem?_eq_getElem (by omega)⟩
  obtain ⟨ad', k1, k2, k3⟩ := h3 0 e0.cs (by simp [he0])
  rw [e1] at k1; cases k1
  have h4 := k3 0 _ rfl
  rw [Nat.zero_mul, show (⟨b', 0, none⟩ : Addr).add 0 = ⟨b', 0, none⟩ by simp [Addr.add]] at h4
  simp only [hat, if_true, e, hb] at h4
  cases h4
theorem EvG.ghost {P : Program} {C : Code} {Q : Exit → Act → World → Prop} {G G' : Gh} {d : Option Nat} {its : List It} {st : St} {f : FuncId} {args : List TV} (hn : noDr its = true) (hg : ∀ β w, Good G β st.bx w → Good G' β st.bx w)
    (h : EvG P C Q G' d its st (.call f args)) : EvG P C Q G d its st (.call f args) := fun _ => by
  obtain ⟨h1, h2⟩ := h (ItOk.of hn)
  exact ⟨h1, fun β w vs g hv => h2 β w vs (hg β w g) hv⟩
theorem FinG.ghost {Q : Exit → Act → World → Prop} {G G' : Gh} {e : Exit} {st : St} (hg : ∀ β w, Good G β st.bx w → Good G' β st.bx w) (h : FinG Q G' e st) : FinG Q G e st := fun β a w r g => h β a w r (hg β w g)
/-- a log that was handed back is wiped -/
theorem EvG.wipe {C : Code} {Q : Exit → Act → World → Prop} {G : Gh} {d : Option Nat} {its : List It} {st : St} (x : LV) (Ro : List ORow) (hown : OwnR Ro x.A x.n x.c 14 47) (hsub : ∀ r ∈ Ro, r ∈ G.R) (hn : x.n ≤ 1000) (hnc : x.n ≤ x.c) (Hs : Hp) (hle : Hp.le Hs G.H)
    (hfree : ∀ r ∈ Ro, ∀ o, Hs r.b o = none) (h0 : Hp.le G.H0 Hs) (hnd : noDr its = true)
    (h : ∀ H' R', Hp.le Hs H' → (∀ r ∈ G.R, (0 < x.n → ∀ r' ∈ Ro, r'.b ≠ r.b) → r ∈ R') → ∃ st', st.put d (.tup []) = some st' ∧ WP Try.prog C Q { G with H := H', R := R', Z := [] } its st') : EvG Try.prog C Q G d its st (.call 28 [aggT x.cs]) := by
  by_cases hx0 : x.n = 0
  · refine EvG.pure Try.call28 (fun _ => by simp [tvsDen, aggT_den]) (wipe0_pc x G.H hx0) ?_
    rintro H' v hle' rfl
    obtain ⟨st', hp, hw⟩ := h H' G.R (Hp.le_trans hle hle') (fun r hr _ => hr)
    exact ⟨.tup [], st', fun _ => ⟨[], rfl, rfl⟩, hp, WP.ghost hnd (fun _ _ g => g.noZ) hw⟩
  · rcases hown with ⟨h1, _, _⟩ | ⟨b, hA, rfl⟩
    · exact absurd h1 hx0
    have hr : (⟨b, x.n, x.c, 14, 47⟩ : ORow) ∈ G.R := hsub _ List.mem_cons_self
    have hf : ∀ o, Hs b o = none := hfree _ List.mem_cons_self
    have hf0 : ∀ o, G.H0 b o = none := fun o => by
      cases hh : G.H0 b o with
      | none => rfl
      | some v => have := h0 b o v hh; rw [hf o] at this; cases this
    refine EvG.ghost hnd (fun _ _ g => good_thaw g hr hf0) ?_
    refine EvG.own Try.call28 (fun _ => by simp [tvsDen, aggT_den]) (Rin := [⟨b, 0, x.c, 14, 47⟩]) (fun r hr => by simp at hr; subst hr; exact List.mem_cons_self) (by simp) (wipe_pco x b _ hA hnc hn) ?_
    rintro H' Ro' v hle' ⟨rfl, rfl⟩
    refine (h H' _ (Hp.le_trans (Hp.le_drop hle hf) hle') ?_).elim fun st' ⟨hp, hw⟩ => ⟨.tup [], st', fun _ => ⟨[], rfl, rfl⟩, hp, hw⟩
    intro r hr hne
    have hne := hne (by omega) _ List.mem_cons_self
    simp only at hne
    refine List.mem_append_right _ (List.mem_filter.2 ⟨List.mem_cons_of_mem _ (List.mem_filter.2 ⟨hr, by simpa using Ne.symm hne⟩), ?_⟩)
    simpa using hne
theorem LoopG.ghost {P : Program} {C : Code} {Q : Exit → Act → World → Prop} {G G' : Gh} {p : List Nat} {its : List It} {st : St} (hg : ∀ β w, Good G β st.bx w → Good G' β st.bx w) (h : LoopG P C Q G' p its st) : LoopG P C Q G p its st := fun β a w r g => h β a w r (hg β w g)
theorem zsOf_drop (z : List Value) (n m : Nat) : (zsOf z (n + m)).drop (n * z.length) = zsOf z m := by rw [zsOf_add, List.drop_left' (zsOf_len z n)]
/-- an append into a row that was made with room -/
theorem AppNext.made {G G' : Gh} {k : Nat} {e : TypeId} {b n p c : Nat} {A' : Option Addr} {c' : Nat} {ys z : List Value} {Zr : List (Nat × List Value)} (hc : n + p = c) (h : AppNext G k e (some ⟨b, 0, none⟩) 0 c n [] ys A' c' G') (hz : ys.length = n * z.length)
    (hR : ⟨b, 0, c, k, e⟩ ∈ G.R) (hZ : G.Z = (b, zsOf z c) :: Zr) (hH : ∀ o, G.H b o = none) : A' = some ⟨b, 0, none⟩ ∧ c' = c ∧ ⟨b, n, c, k, e⟩ ∈ G'.R ∧ (b, zsOf z p) ∈ G'.Z ∧ ∀ o, n * z.length ≤ o → G'.H b o = none := by
  subst hc
  rcases h with ⟨rfl, rfl, rfl, rfl⟩ | ⟨b', h1, rfl, rfl, _, _, rfl⟩ | ⟨b', _, _, ⟨_, h2⟩, _⟩
  · exact ⟨rfl, rfl, hR, by rw [hZ, Nat.zero_add]; exact List.mem_cons_self, fun o _ => hH o⟩
  · cases h1
    refine ⟨rfl, rfl, by rw [Nat.zero_add]; exact List.mem_cons_self, ?_, fun o ho => ?_⟩
    rotate_left
    · show G.H.add b (0 * k) ys b o = none
      rw [Hp.add_out (.inr (by omega))]
      exact hH o
    show _ ∈ G.zpush b ys.length
    unfold Gh.zpush
    rw [hZ, List.map_cons, if_pos rfl]
    simp only
    rw [hz, zsOf_drop]
    exact List.mem_cons_self
  · omega
/-- what a merge answers, in one word -/
noncomputable def mres (l : LV) (prev term : Int) (es : List Entry) : List Entry × Int × Bool :=
  @ite _ (mergeBad l prev term es) (Classical.propDecidable _) (l.es, 0, false) (mergeEs l prev es, prev + es.length, true)
theorem MergeRR.one {l : LV} {prev term : Int} {es : List Entry} {H' : Hp} {Ro : List ORow} {v : Value} (h : MergeRR l prev term es H' Ro v) :
    ∃ m : LV, v = .tuple #[aggV m.cs, .int .i64 (mres l prev term es).2.1, .bool (mres l prev term es).2.2] ∧ m.ok H' ∧ SameBut l m (mres l prev term es).1 ∧ OwnR Ro m.A m.n m.c 14 47 := by
  unfold mres
  rcases h with ⟨hb, m, h1, h2, h3, h4⟩ | ⟨hb, m, h1, h2, h3, h4⟩
  · rw [if_pos hb]; exact ⟨m, h1, h2, h3, h4⟩
  · rw [if_neg hb]; exact ⟨m, h1, h2, h3, h4⟩
theorem MergeR.one {l : LV} {prev term : Int} {es : List Entry} {H' : Hp} {v : Value} (h : MergeR l prev term es H' v) :
    ∃ m : LV, v = .tuple #[aggV m.cs, .int .i64 (mres l prev term es).2.1, .bool (mres l prev term es).2.2] ∧ m.ok H' ∧ SameBut l m (mres l prev term es).1 := by
  unfold mres
  rcases h with ⟨hb, m, h1, h2, h3⟩ | ⟨hb, m, h1, h2, h3⟩
  · rw [if_pos hb]; exact ⟨m, h1, h2, h3⟩
  · rw [if_neg hb]; exact ⟨m, h1, h2, h3⟩
def cres (l : LV) (i : Int) : (Int × Int × Joint × List Entry) × Int :=
  if (l.term i).2 = true then ((i, (l.term i).1, confOf (l.es.take (i - l.b).toNat) l.j, l.es.drop (i - l.b).toNat), 0) else ((0, 0, .zero, []), 1)
def IsL (m : LV) (x : Int × Int × Joint × List Entry) : Prop := m.b = x.1 ∧ m.bt = x.2.1 ∧ m.j = x.2.2.1 ∧ m.es = x.2.2.2
theorem CompactRR.one {l : LV} {i : Int} {H' : Hp} {Ro : List ORow} {v : Value} (h : CompactRR l i H' Ro v) : ∃ (Ro' : List ORow) (c : LV), Ro'.Sublist Ro ∧ v = .tuple #[aggV c.cs, .int .i64 (cres l i).2] ∧ c.ok H' ∧ IsL c (cres l i).1 ∧ OwnR Ro' c.A c.n c.c 14 47 := by
  unfold CompactRR at h
  unfold cres
  split at h
  · rename_i hi
    rw [if_pos hi]
    obtain ⟨c, h1, h2, h3, h4, h5, h6, h7⟩ := h
    exact ⟨Ro, c, List.Sublist.refl _, h1, h2, ⟨h3, h4, h5, h6⟩, h7⟩
  · rename_i hi
    rw [if_neg hi]
    obtain ⟨c, h1, rfl⟩ := h
    exact ⟨[], _, List.nil_sublist _, h1, SVok.nil, ⟨rfl, rfl, rfl, rfl⟩, .inl ⟨rfl, rfl, rfl⟩⟩
theorem CompactR.one {l : LV} {i : Int} {H' : Hp} {v : Value} (h : CompactR l i H' v) : ∃ c : LV, v = .tuple #[aggV c.cs, .int .i64 (cres l i).2] ∧ c.ok H' ∧ IsL c (cres l i).1 := by
  unfold CompactR at h
  unfold cres
  split at h
  · rename_i hi
    rw [if_pos hi]
    obtain ⟨c, h1, h2, h3, h4, h5, h6⟩ := h
    exact ⟨c, h1, h2, h3, h4, h5, h6⟩
  · rename_i hi
    rw [if_neg hi]
    obtain ⟨c, h1, rfl⟩ := h
    exact ⟨_, h1, SVok.nil, rfl, rfl, rfl, rfl⟩
theorem term_congr {l m : LV} (h : SameBut l m l.es) (hn : m.n = l.n) (i : Int) : m.term i = l.term i := by
  obtain ⟨h1, h2, h3, h4⟩ := h
  unfold LV.term LV.at
  rw [h1, h2, h4, hn]
theorem mism_congr {l m : LV} (h : ∀ i, m.term i = l.term i) (p : Int) : ∀ (es : List Entry) (k : Nat), mism m p k es = mism l p k es
  | [], k => rfl
  | e :: r, k => by simp only [mism, h, mism_congr h p r (k + 1)]
theorem mres_congr {l m : LV} (h : SameBut l m l.es) (hn : m.n = l.n) (prev term : Int) (es : List Entry) : mres m prev term es = mres l prev term es := by
  have ht := term_congr h hn
  have hb : mergeBad m prev term es = mergeBad l prev term es := by unfold mergeBad; rw [ht, h.1, hn]
  have he : mergeEs m prev es = mergeEs l prev es := by unfold mergeEs; rw [mism_congr ht, h.1, h.2.2.2]
  unfold mres
  rw [he, h.2.2.2]
  by_cases hl : mergeBad l prev term es
  · rw [if_pos hl, if_pos (hb ▸ hl)]
  · rw [if_neg hl, if_neg (fun h => hl (hb ▸ h))]
theorem cres_congr {l m : LV} (h : SameBut l m l.es) (hn : m.n = l.n) (i : Int) : cres m i = cres l i := by
  unfold cres
  rw [term_congr h hn, h.1, h.2.2.1, h.2.2.2]
theorem IsL.same {a c : LV} {x : Int × Int × Joint × List Entry} (h : IsL a x) (h' : IsL c x) : SameL a c := ⟨h.1.trans h'.1.symm, h.2.1.trans h'.2.1.symm, h.2.2.1.trans h'.2.2.1.symm, h.2.2.2.trans h'.2.2.2.symm⟩
theorem SameBut.same {l m a c : LV} {es es' : List Entry} (h : SameBut l a es) (h' : SameBut m c es') (hlm : SameBut l m l.es) (he : es = es') : SameL a c :=
  ⟨h.1.trans (hlm.1.symm.trans h'.1.symm), h.2.1.trans (hlm.2.1.symm.trans h'.2.1.symm), h.2.2.1.trans (hlm.2.2.1.symm.trans h'.2.2.1.symm), h.2.2.2.trans (he.trans h'.2.2.2.symm)⟩
theorem mres_len (l : LV) (prev term : Int) (es : List Entry) : (mres l prev term es).1.length ≤ l.es.length + es.length := by
  unfold mres
  split
  · simp
  · simp only [mergeEs]
    split
    · simp
    · rw [List.length_append, List.length_take, List.length_drop, List.length_drop]
      omega
theorem cres_len (l : LV) (i : Int) : (cres l i).1.2.2.2.length ≤ l.es.length := by
  unfold cres
  split
  · simp
  · simp
theorem Hp.none_le {H H' : Hp} (h : Hp.le H H') {b : Nat} (hb : ∀ o, H' b o = none) : ∀ o, H b o = none := fun o => by
  cases hh : H b o with
  | none => rfl
  | some v => have := h b o v hh; rw [hb o] at this; cases this
/-- a row that came later is another row -/
theorem OwnR.apart {Ro : List ORow} {A : Option Addr} {n c k : Nat} {e : TypeId} {es : List Entry} {H : Hp} {b : Nat} (ho : OwnR Ro A n c k e) (h : SVok H A n c es) (hb : ∀ o, H b o = none) (hn : 0 < n) : ∀ r ∈ Ro, r.b ≠ b := by
  rcases ho with ⟨h1, _, _⟩ | ⟨b', hA, rfl⟩
  · omega
  · intro r hr
    obtain rfl := List.mem_singleton.1 hr
    exact SVok.ne h hb hA hn
noncomputable def C5 : Code := fbody Try.f5
theorem C5b : Try.f5.body = some C5 := by kernel_rfl
theorem C5r : Try.f5.results.toList = [.tmp 12] := by kernel_rfl
def D5 : List (List Nat) := [[0, 1, 1, 1, 1], [0, 0, 1, 1, 1, 1, 1, 0, 0, 1, 0, 0, 1, 0, 1, 1, 1, 1, 1]]
theorem D5ok : drOk C5 D5 = true := by kernel_rfl
noncomputable def E5 (O : Ops) (H : Hp) : Env := ⟨O, H, TE, C5, [.tmp 12], D5⟩
set_option maxHeartbeats 4000000 in
set_option maxRecDepth 100000 in
theorem TurnsLaw_pc (l : LV) (e : Entry) (prev term : Int) (A2 : Option Addr) (n2 c2 : Nat) (es2 : List Entry) (to : Int) (H : Hp) (hl : l.ok H) (hp : In64 prev) (h2 : SVok H A2 n2 c2 es2) (hto : In64 to) :
    PC Try.prog 5 [aggV l.cs, aggV e.cs, .int .i64 prev, .int .i64 term, .slice A2 n2 c2, .int .i64 to] H fun _ v => v = .bool true := by
  refine PC.enter [aggT l.cs, aggT e.cs, .c (.v (.int .i64 prev)), .c (.v (.int .i64 term)), .c (.v (.slice A2 n2 c2)), .c (.v (.int .i64 to))] Try.func5 C5b rfl 153 Try.ntmps5 (by simp) fun w hw => ?_
  refine ops_open fun oW oA oS oM oBa oBo oBx oBn oE oN oL oLe oAnd oOr oNot oBq oSq oMx oMn oC oSz oAd oIx oQu oRe oSl oSr hO => ?_
  have hnt : oNot true = false := by
    obtain ⟨rfl, rfl, rfl, rfl, rfl, rfl, rfl, rfl, rfl, rfl, rfl, rfl, rfl, rfl, rfl, rfl, rfl, rfl, rfl, rfl, rfl, rfl, rfl, rfl, rfl, rfl, rfl⟩ := Ops.mk.inj hO
    rfl
  have hnf : oNot false = true := by
    obtain ⟨rfl, rfl, rfl, rfl, rfl, rfl, rfl, rfl, rfl, rfl, rfl, rfl, rfl, rfl, rfl, rfl, rfl, rfl, rfl, rfl, rfl, rfl, rfl, rfl, rfl, rfl, rfl⟩ := Ops.mk.inj hO
    rfl
  have hc := Hp.le_refl H
  refine run_sound (E := E5 ⟨oW, oA, oS, oM, oBa, oBo, oBx, oBn, oE, oN, oL, oLe, oAnd, oOr, oNot, oBq, oSq, oMx, oMn, oC, oSz, oAd, oIx, oQu, oRe, oSl, oSr⟩ _) TEok hO Tm D5ok (PanicOk.body _ _ _) (Hp.le_refl _) 4000 _ _ ?_
  conv => arg 5; cbv
  simp only [Res.ok]
  refine EvG.pure Try.call12 (fun _ => rfl) (begun_pc _) ?_
  rintro H1 v hle1 rfl
  refine ⟨.kb true, _, fun _ => (by first | exact rfl | exact ⟨_, rfl, rfl⟩ | exact aggT_den _ _), rfl, ?_⟩
  replace hc := Hp.le_trans hc hle1
  refine run_sound (E := E5 ⟨oW, oA, oS, oM, oBa, oBo, oBx, oBn, oE, oN, oL, oLe, oAnd, oOr, oNot, oBq, oSq, oMx, oMn, oC, oSz, oAd, oIx, oQu, oRe, oSl, oSr⟩ _) TEok hO Tm D5ok (PanicOk.body _ _ _) (Hp.le_refl _) 4000 _ _ ?_
  conv => arg 5; cbv
  simp only [Res.ok]
  refine ⟨fun hh => (by rw [hnt] at hh; cases hh), fun _ => ?_⟩
  refine EvG.pure Try.call21 (fun _ => rfl) (Light_pc l A2 n2 c2 es2 _ (hl.mono hc) (h2.mono hc)) ?_
  rintro H2 v hle2 ⟨bl, rfl, hbl⟩
  refine ⟨.t (.c (.v (.bool bl))), _, fun _ => (by first | exact rfl | exact ⟨_, rfl, rfl⟩ | exact aggT_den _ _), rfl, ?_⟩
  replace hc := Hp.le_trans hc hle2
  refine run_sound (E := E5 ⟨oW, oA, oS, oM, oBa, oBo, oBx, oBn, oE, oN, oL, oLe, oAnd, oOr, oNot, oBq, oSq, oMx, oMn, oC, oSz, oAd, oIx, oQu, oRe, oSl, oSr⟩ _) TEok hO Tm D5ok (PanicOk.body _ _ _) (Hp.le_refl _) 4000 _ _ ?_
  conv => arg 5; cbv
  simp only [Res.ok]
  refine ⟨fun hh => ?_, fun hh => ?_⟩
  · exact RetG.pc TEok C5r rfl rfl rfl (fun _ => rfl) rfl
  have hbl2 : bl = true := by
    cases bl
    · rw [hnf] at hh; cases hh
    · rfl
  obtain ⟨hln, hn2⟩ := hbl hbl2
  clear hh hbl
  refine EvG.pure Try.call22 (fun _ => rfl) (rMay_pc l _ (hl.mono hc) (by omega)) ?_
  rintro H3 v hle3 ⟨bm, rfl, hbm⟩
  refine ⟨.t (.c (.v (.bool bm))), _, fun _ => (by first | exact rfl | exact ⟨_, rfl, rfl⟩ | exact aggT_den _ _), rfl, ?_⟩
  replace hc := Hp.le_trans hc hle3
  refine run_sound (E := E5 ⟨oW, oA, oS, oM, oBa, oBo, oBx, oBn, oE, oN, oL, oLe, oAnd, oOr, oNot, oBq, oSq, oMx, oMn, oC, oSz, oAd, oIx, oQu, oRe, oSl, oSr⟩ _) TEok hO Tm D5ok (PanicOk.body _ _ _) (Hp.le_refl _) 4000 _ _ ?_
  conv => arg 5; cbv
  simp only [Res.ok]
  refine ⟨fun hh => ?_, fun hh => ?_⟩
  · exact RetG.pc TEok C5r rfl rfl rfl (fun _ => rfl) rfl
  have hbm2 : bm = true := by
    revert hh
    obtain ⟨rfl, rfl, rfl, rfl, rfl, rfl, rfl, rfl, rfl, rfl, rfl, rfl, rfl, rfl, rfl, rfl, rfl, rfl, rfl, rfl, rfl, rfl, rfl, rfl, rfl, rfl, rfl⟩ := Ops.mk.inj hO
    cases bm <;> simp [Ops.std]
  have hfine := (hbm.1 hbm2).fine (by omega)
  clear hh
  obtain ⟨cN, hcN⟩ : ∃ cN, l.n + 2 = cN := ⟨_, rfl⟩
  have hcap : oA .i64 (oC l.n) 2 = (cN : Int) := by
    obtain ⟨rfl, rfl, rfl, rfl, rfl, rfl, rfl, rfl, rfl, rfl, rfl, rfl, rfl, rfl, rfl, rfl, rfl, rfl, rfl, rfl, rfl, rfl, rfl, rfl, rfl, rfl, rfl⟩ := Ops.mk.inj hO
    rw [← hcN]
    exact w64 (by simp only; omega) (by simp only; omega)
  change oA .i64 (oC l.5) 2 = _ at hcap
  refine EvG.pure Try.call23 (fun _ => rfl) (Copy_pc l _ (hl.mono hc) (by omega)) ?_
  rintro H4 v hle4 ⟨q, rfl, hq, hql⟩
  refine ⟨.t (aggT q.cs), _, fun _ => (by first | exact rfl | exact ⟨_, rfl, rfl⟩ | exact aggT_den _ _), rfl, ?_⟩
  replace hc := Hp.le_trans hc hle4
  refine run_sound (E := E5 ⟨oW, oA, oS, oM, oBa, oBo, oBx, oBn, oE, oN, oL, oLe, oAnd, oOr, oNot, oBq, oSq, oMx, oMn, oC, oSz, oAd, oIx, oQu, oRe, oSl, oSr⟩ _) TEok hO Tm D5ok (PanicOk.body _ _ _) (Hp.le_refl _) 4000 _ _ ?_
  conv => arg 5; cbv
  simp only [Res.ok]
  rw [hcap]
  refine EvG.make TEok rfl rfl rfl rfl (by omega) (by omega) (by omega) fun b hb => ⟨_, rfl, ?_⟩
  simp only [Int.toNat_natCast]
  refine run_sound (E := E5 ⟨oW, oA, oS, oM, oBa, oBo, oBx, oBn, oE, oN, oL, oLe, oAnd, oOr, oNot, oBq, oSq, oMx, oMn, oC, oSz, oAd, oIx, oQu, oRe, oSl, oSr⟩ _) TEok hO Tm D5ok (PanicOk.body _ _ _) (Hp.le_refl _) 4000 _ _ ?_
  conv => arg 5; cbv
  simp only [Res.ok]
  have hl5 : Hp.le H4 (H4.add b 0 (zsOf zEntry (Int.toNat 0))) := Hp.le_add fun o _ => hb o
  replace hc := Hp.le_trans hc hl5
  refine fun hit => ⟨[], flatE l.es, Rw.nil, ((SVok.lv hl).mono hc).rw, flatE_one, Nat.zero_le _, by show 0 + l.n ≤ 1048576; omega, fun hh => (by cases hh), fun _ _ => ⟨b, rfl, List.mem_cons_self⟩, fun A' c' G' hn' hle' hrw hc' => ?_⟩
  obtain ⟨e1, e2, e3⟩ := hn'.same
  have hfl : (flatE l.es).length = l.n * zEntry.length := by
    rw [flatE, flatten_len (k := 14) Entry.lens, List.length_map, ← hl.1]
    rfl
  have hmade := AppNext.made (p := 2) hcN (z := zEntry) (Zr := []) hn' hfl (by exact List.mem_cons_self) (by rfl) (by
    intro o
    show H4.add b 0 (zsOf zEntry (Int.toNat 0)) b o = none
    rw [Hp.add_out (.inr (by show 0 + 0 ≤ o; omega))]
    exact hb o)
  obtain ⟨rfl, hcc, hr', hz', hfr⟩ := hmade
  replace hcc := hcc.symm
  subst hcc
  rw [Nat.zero_add, List.nil_append] at hrw
  replace hc := Hp.le_trans hc hle'
  replace hq := hq.mono (Hp.le_trans hl5 hle')
  rw [Nat.zero_add]
  refine ⟨_, rfl, ?_⟩
  clear hn' hit hb hl5 hle' hfl hcap
  refine run_sound (E := E5 ⟨oW, oA, oS, oM, oBa, oBo, oBx, oBn, oE, oN, oL, oLe, oAnd, oOr, oNot, oBq, oSq, oMx, oMn, oC, oSz, oAd, oIx, oQu, oRe, oSl, oSr⟩ _) TEok hO Tm D5ok (PanicOk.body _ _ _) (Hp.le_refl _) 4000 _ _ ?_
  conv => arg 5; cbv
  simp only [Res.ok]
  refine LoopG.ghost (fun β w g => ((good_freeze g hr' hz').dropR (List.nil_sublist _) (fun q hq => by cases hq))) ?_
  obtain ⟨H5, hH5⟩ : ∃ H5 : Hp, G'.H.add b (l.n * 14) (zsOf zEntry 2) = H5 := ⟨_, rfl⟩
  simp only [hH5]
  obtain ⟨off, hoff⟩ : ∃ off, l.n * 14 = off := ⟨_, rfl⟩
  obtain ⟨s1, hs1⟩ : ∃ s1, l.n + 1 = s1 := ⟨_, rfl⟩
  have hz0 : ∀ (j : Nat) (v : Value), zEntry[j]? = some v → hat H5 ⟨b, off, none⟩ j = some v := fun j v hv => by
    rw [← hH5, ← hoff]
    unfold hat
    rw [if_pos rfl]
    refine Hp.add_at ?_
    rw [show zsOf zEntry 2 = zEntry ++ zEntry by simp [zsOf, List.replicate_succ]]
    rw [List.getElem?_append_left (by have := (List.getElem?_eq_some_iff.1 hv).1; exact this)]
    exact hv
  have hle5 : Hp.le G'.H H5 := by
    rw [← hH5]
    exact Hp.le_add fun o ho => hfr o ho
  replace hc := Hp.le_trans hc hle5
  replace hq := hq.mono hle5
  have hlz : SVok H5 (some ⟨b, 0, none⟩) l.n cN l.es := SVok.of hl.1 (by omega) (hrw.mono hle5)
  have hqn : q.n = l.n := by rw [hq.1, hql.2.2.2, ← hl.1]
  clear hrw hr' hz' hfr hle5 hH5 hc'
  have hH0 : Hp.le G'.H0 H5 := by
    rw [e3]
    exact hc
  have hfz : LV.fine ⟨l.b, l.bt, l.j, some ⟨b, 0, none⟩, l.n, cN, l.es⟩ := hfine
  have hq1 : oA .i64 (oC q.n) 1 = (s1 : Int) := by
    obtain ⟨rfl, rfl, rfl, rfl, rfl, rfl, rfl, rfl, rfl, rfl, rfl, rfl, rfl, rfl, rfl, rfl, rfl, rfl, rfl, rfl, rfl, rfl, rfl, rfl, rfl, rfl, rfl⟩ := Ops.mk.inj hO
    rw [← hs1, ← hqn]
    exact w64 (by simp only; omega) (by simp only; omega)
  change oA .i64 (oC q.5) 1 = _ at hq1
  have hq0 : oC q.n = (l.n : Int) := by
    obtain ⟨rfl, rfl, rfl, rfl, rfl, rfl, rfl, rfl, rfl, rfl, rfl, rfl, rfl, rfl, rfl, rfl, rfl, rfl, rfl, rfl, rfl, rfl, rfl, rfl, rfl, rfl, rfl⟩ := Ops.mk.inj hO
    rw [← hqn]
  change oC q.5 = _ at hq0
  have hqf : q.fine := ⟨by rw [hql.1]; exact hfine.1, by rw [hql.1]; exact hfine.2.1, by rw [hqn]; exact hfine.2.2⟩
  obtain ⟨M, hM⟩ : ∃ M, mres ⟨l.b, l.bt, l.j, some ⟨b, 0, none⟩, l.n, cN, l.es⟩ prev term es2 = M := ⟨_, rfl⟩
  have hMq : mres q prev term es2 = M := (mres_congr (l := ⟨l.b, l.bt, l.j, some ⟨b, 0, none⟩, l.n, cN, l.es⟩) hql hqn prev term es2).trans hM
  obtain ⟨CR, hCR⟩ : ∃ CR, cres ⟨l.b, l.bt, l.j, some ⟨b, 0, none⟩, l.n, cN, l.es⟩ to = CR := ⟨_, rfl⟩
  have hCq : cres q to = CR := (cres_congr (l := ⟨l.b, l.bt, l.j, some ⟨b, 0, none⟩, l.n, cN, l.es⟩) hql hqn to).trans hCR
  have hMl : M.1.length ≤ l.n + n2 := by
    rw [← hM, hl.1, h2.1]
    exact mres_len _ _ _ _
  have hCl : CR.1.2.2.2.length ≤ l.n := by
    rw [← hCR, hl.1]
    exact cres_len _ _
  refine LoopG.mk [2, 3, 4, 5, 6, 7, 13, 14] (fun x : Nat × Hp => x.1 ≤ 2 ∧ Hp.le H5 x.2) (fun x => ⟨153, [(2, .t (.c (.v (.int .i64 prev)))), (3, .t (.c (.v (.int .i64 term)))), (4, .t (.c (.v (.slice A2 n2 c2)))), (5, .t (.c (.v (.int .i64 to)))), (6, .t (.c (.p 0 0))), (7, .t (.c (.p 1 0))), (13, .t (.c (.p 2 0))), (14, iV x.1)], [],
      [(LV.cs ⟨l.b, l.bt, l.j, some ⟨b, 0, none⟩, l.n, cN, l.es⟩).map .v, e.cs.map .v, q.cs.map .v]⟩) (fun x => { G' with H := x.2, R := [], Z := [] }) (fun x => 2 - x.1) (0, H5) rfl ⟨_, rfl⟩ ⟨Nat.zero_le _, Hp.le_refl _⟩ rfl rfl ?_
  rintro ⟨k, HX⟩ ⟨hk, hX⟩
  simp only at hk hX ⊢
  obtain ⟨ki, hki⟩ : ∃ ki : Int, (k : Int) = ki := ⟨_, rfl⟩
  simp only [hki]
  refine run_sound (E := E5 ⟨oW, oA, oS, oM, oBa, oBo, oBx, oBn, oE, oN, oL, oLe, oAnd, oOr, oNot, oBq, oSq, oMx, oMn, oC, oSz, oAd, oIx, oQu, oRe, oSl, oSr⟩ _) TEok hO Tm D5ok (PanicOk.lq (PanicOk.body _ _ _)) (Hp.le_refl _) 4000 _ _ ?_
  conv => arg 5; cbv
  simp only [Res.ok]
  refine ⟨fun hh => ?_, fun hh => ?_⟩
  · have hlt : ki < 2 := by
      obtain ⟨rfl, rfl, rfl, rfl, rfl, rfl, rfl, rfl, rfl, rfl, rfl, rfl, rfl, rfl, rfl, rfl, rfl, rfl, rfl, rfl, rfl, rfl, rfl, rfl, rfl, rfl, rfl⟩ := Ops.mk.inj hO
      simpa [Ops.std] using hh
    have hlX : (⟨l.b, l.bt, l.j, some ⟨b, 0, none⟩, l.n, cN, l.es⟩ : LV).ok HX := SVok.mono hlz hX
    have cX := Hp.le_trans hc hX
    refine EvG.pcr Try.call24 (fun _ => rfl) (Push_pcr ⟨l.b, l.bt, l.j, some ⟨b, 0, none⟩, l.n, cN, l.es⟩ e HX hlX (by show l.n ≤ 1000; omega)) ?_
    rintro HA Roa v hlA ⟨a, rfl, ha, has, hao⟩ hfa
    refine ⟨.t (aggT a.cs), _, fun _ => (by first | exact rfl | exact ⟨_, rfl, rfl⟩ | exact aggT_den _ _), rfl, ?_⟩
    refine run_sound (E := E5 ⟨oW, oA, oS, oM, oBa, oBo, oBx, oBn, oE, oN, oL, oLe, oAnd, oOr, oNot, oBq, oSq, oMx, oMn, oC, oSz, oAd, oIx, oQu, oRe, oSl, oSr⟩ _) TEok hO Tm D5ok (PanicOk.lq (PanicOk.body _ _ _)) (Hp.le_refl _) 4000 _ _ ?_
    conv => arg 5; cbv
    simp only [Res.ok]
    have cM := (Merge_pcr ⟨l.b, l.bt, l.j, some ⟨b, 0, none⟩, l.n, cN, l.es⟩ prev term A2 n2 c2 es2 HA (hlX.mono hlA) hfz (h2.mono (Hp.le_trans cX hlA)) hp (by show l.n + n2 ≤ 1048576; omega)).mono (fun _ _ _ _ h => h.one)
    rw [hM] at cM
    refine EvG.pcr Try.call18 (fun _ => rfl) (cM) ?_
    rintro HB Rob v hlB ⟨m, rfl, hm, hms, hmo⟩ hfb
    refine ⟨.tup [aggT m.cs, .c (.v (.int .i64 M.2.1)), .c (.v (.bool M.2.2))], _, fun _ => (by first | exact rfl | exact ⟨_, rfl, rfl⟩ | exact aggT_den _ _), rfl, ?_⟩
    replace hlB : Hp.le HA HB := hlB
    have lB := Hp.le_trans hlA hlB
    refine run_sound (E := E5 ⟨oW, oA, oS, oM, oBa, oBo, oBx, oBn, oE, oN, oL, oLe, oAnd, oOr, oNot, oBq, oSq, oMx, oMn, oC, oSz, oAd, oIx, oQu, oRe, oSl, oSr⟩ _) TEok hO Tm D5ok (PanicOk.lq (PanicOk.body _ _ _)) (Hp.le_refl _) 4000 _ _ ?_
    conv => arg 5; cbv
    simp only [Res.ok]
    have cN' := (rMerge_pc q prev term A2 n2 c2 es2 HB (hq.mono (Hp.le_trans hX lB)) hqf (h2.mono (Hp.le_trans cX lB)) hp (by omega)).mono (fun _ _ _ h => h.one)
    rw [hMq] at cN'
    refine EvG.pure Try.call25 (fun _ => rfl) (cN') ?_
    rintro HC v hlC ⟨n, rfl, hn, hns⟩
    refine ⟨.tup [aggT n.cs, .c (.v (.int .i64 M.2.1)), .c (.v (.bool M.2.2))], _, fun _ => (by first | exact rfl | exact ⟨_, rfl, rfl⟩ | exact aggT_den _ _), rfl, ?_⟩
    replace hlC : Hp.le HB HC := hlC
    have lC := Hp.le_trans lB hlC
    refine run_sound (E := E5 ⟨oW, oA, oS, oM, oBa, oBo, oBx, oBn, oE, oN, oL, oLe, oAnd, oOr, oNot, oBq, oSq, oMx, oMn, oC, oSz, oAd, oIx, oQu, oRe, oSl, oSr⟩ _) TEok hO Tm D5ok (PanicOk.lq (PanicOk.body _ _ _)) (Hp.le_refl _) 4000 _ _ ?_
    conv => arg 5; cbv
    simp only [Res.ok]
    have cC := (Compact_pcr ⟨l.b, l.bt, l.j, some ⟨b, 0, none⟩, l.n, cN, l.es⟩ to HC (hlX.mono lC) hfz hto).mono (fun _ _ _ _ h => h.one)
    rw [hCR] at cC
    refine EvG.pcr Try.call14 (fun _ => rfl) (cC) ?_
    rintro HD Roc v hlD ⟨Roc', c, hsub, rfl, hcc, hcs, hco⟩ hfc
    refine ⟨.tup [aggT c.cs, .c (.v (.int .i64 CR.2))], _, fun _ => (by first | exact rfl | exact ⟨_, rfl, rfl⟩ | exact aggT_den _ _), rfl, ?_⟩
    replace hlD : Hp.le HC HD := hlD
    have lD := Hp.le_trans lC hlD
    refine run_sound (E := E5 ⟨oW, oA, oS, oM, oBa, oBo, oBx, oBn, oE, oN, oL, oLe, oAnd, oOr, oNot, oBq, oSq, oMx, oMn, oC, oSz, oAd, oIx, oQu, oRe, oSl, oSr⟩ _) TEok hO Tm D5ok (PanicOk.lq (PanicOk.body _ _ _)) (Hp.le_refl _) 4000 _ _ ?_
    conv => arg 5; cbv
    simp only [Res.ok]
    have cD := (rCompact_pc q to HD (hq.mono (Hp.le_trans hX lD)) hqf hto).mono (fun _ _ _ h => h.one)
    rw [hCq] at cD
    refine EvG.pure Try.call26 (fun _ => rfl) (cD) ?_
    rintro HE v hlE ⟨d, rfl, hd, hds⟩
    refine ⟨.tup [aggT d.cs, .c (.v (.int .i64 CR.2))], _, fun _ => (by first | exact rfl | exact ⟨_, rfl, rfl⟩ | exact aggT_den _ _), rfl, ?_⟩
    replace hlE : Hp.le HD HE := hlE
    have lE := Hp.le_trans lD hlE
    have cP := rPush_pc q e HE (hq.mono (Hp.le_trans hX lE)) (by omega)
    have hx0 : ∀ x : LV, x.es = l.es → x.n = x.es.length → x.n = l.n := fun x hx hxn => by rw [hxn, hx, ← hl.1]
    iterate 1 (try (refine run_sound (E := E5 ⟨oW, oA, oS, oM, oBa, oBo, oBx, oBn, oE, oN, oL, oLe, oAnd, oOr, oNot, oBq, oSq, oMx, oMn, oC, oSz, oAd, oIx, oQu, oRe, oSl, oSr⟩ _) TEok hO Tm D5ok (PanicOk.lq (PanicOk.body _ _ _)) (Hp.le_refl _) 40 _ _ ?_; (conv => arg 5; cbv); simp only [Res.ok]))
    refine EvG.pure Try.call27 (fun _ => rfl) (cP) ?_
    rintro HF v hlF ⟨u, rfl, hu, hus⟩
    refine ⟨.t (aggT u.cs), _, fun _ => (by first | exact rfl | exact ⟨_, rfl, rfl⟩ | exact aggT_den _ _), rfl, ?_⟩
    replace hlF : Hp.le HE HF := hlF
    have lF := Hp.le_trans lE hlF
    have cS1 := Same_true a u HF (ha.mono (Hp.le_trans hlB (Hp.le_trans hlC (Hp.le_trans hlD (Hp.le_trans hlE hlF))))) hu (by rw [ha.1, has.2.2.2, List.length_append, List.length_singleton]; show l.es.length + 1 ≤ 1048576; rw [← hl.1]; omega) (SameBut.same has hus hql (by rw [hql.2.2.2]))
    iterate 1 (try (refine run_sound (E := E5 ⟨oW, oA, oS, oM, oBa, oBo, oBx, oBn, oE, oN, oL, oLe, oAnd, oOr, oNot, oBq, oSq, oMx, oMn, oC, oSz, oAd, oIx, oQu, oRe, oSl, oSr⟩ _) TEok hO Tm D5ok (PanicOk.lq (PanicOk.body _ _ _)) (Hp.le_refl _) 40 _ _ ?_; (conv => arg 5; cbv); simp only [Res.ok]))
    refine EvG.pure Try.call19 (fun _ => rfl) (cS1) ?_
    rintro HG v hlG rfl
    refine ⟨.kb true, _, fun _ => (by first | exact rfl | exact ⟨_, rfl, rfl⟩ | exact aggT_den _ _), rfl, ?_⟩
    replace hlG : Hp.le HF HG := hlG
    have lG := Hp.le_trans lF hlG
    iterate 1 (try (refine run_sound (E := E5 ⟨oW, oA, oS, oM, oBa, oBo, oBx, oBn, oE, oN, oL, oLe, oAnd, oOr, oNot, oBq, oSq, oMx, oMn, oC, oSz, oAd, oIx, oQu, oRe, oSl, oSr⟩ _) TEok hO Tm D5ok (PanicOk.lq (PanicOk.body _ _ _)) (Hp.le_refl _) 40 _ _ ?_; (conv => arg 5; cbv); simp only [Res.ok]))
    refine ⟨fun hh => (by rw [hnt] at hh; cases hh), fun _ => ?_⟩
    have lGB : Hp.le HB HG := Hp.le_trans hlC (Hp.le_trans hlD (Hp.le_trans hlE (Hp.le_trans hlF hlG)))
    have hml : m.n ≤ 120 := by
      rw [hm.1, hms.2.2.2]
      omega
    have cS2 := Same_true m n HG (hm.mono lGB) (hn.mono (Hp.le_trans hlD (Hp.le_trans hlE (Hp.le_trans hlF hlG)))) (by omega) (SameBut.same hms hns hql rfl)
    refine EvG.pure Try.call19 (fun _ => rfl) (cS2) ?_
    rintro HI v hlI rfl
    refine ⟨.kb true, _, fun _ => (by first | exact rfl | exact ⟨_, rfl, rfl⟩ | exact aggT_den _ _), rfl, ?_⟩
    replace hlI : Hp.le HG HI := hlI
    have lI := Hp.le_trans lG hlI
    iterate 8 (try (refine run_sound (E := E5 ⟨oW, oA, oS, oM, oBa, oBo, oBx, oBn, oE, oN, oL, oLe, oAnd, oOr, oNot, oBq, oSq, oMx, oMn, oC, oSz, oAd, oIx, oQu, oRe, oSl, oSr⟩ _) TEok hO Tm D5ok (PanicOk.lq (PanicOk.body _ _ _)) (Hp.le_refl _) 10 _ _ ?_; (conv => arg 5; cbv); simp only [Res.ok]))
    refine ⟨fun hh => ?_, fun _ => ?_⟩
    · exfalso
      revert hh
      obtain ⟨rfl, rfl, rfl, rfl, rfl, rfl, rfl, rfl, rfl, rfl, rfl, rfl, rfl, rfl, rfl, rfl, rfl, rfl, rfl, rfl, rfl, rfl, rfl, rfl, rfl, rfl, rfl⟩ := Ops.mk.inj hO
      simp [Ops.std]
    have cS3 := Same_true c d HI (hcc.mono (Hp.le_trans hlE (Hp.le_trans hlF (Hp.le_trans hlG hlI)))) (hd.mono (Hp.le_trans hlF (Hp.le_trans hlG hlI))) (by rw [hcc.1, hcs.2.2.2]; omega) (IsL.same hcs hds)
    refine EvG.pure Try.call19 (fun _ => rfl) (cS3) ?_
    rintro HJ v hlJ rfl
    refine ⟨.kb true, _, fun _ => (by first | exact rfl | exact ⟨_, rfl, rfl⟩ | exact aggT_den _ _), rfl, ?_⟩
    replace hlJ : Hp.le HI HJ := hlJ
    have lJ := Hp.le_trans lI hlJ
    iterate 8 (try (refine run_sound (E := E5 ⟨oW, oA, oS, oM, oBa, oBo, oBx, oBn, oE, oN, oL, oLe, oAnd, oOr, oNot, oBq, oSq, oMx, oMn, oC, oSz, oAd, oIx, oQu, oRe, oSl, oSr⟩ _) TEok hO Tm D5ok (PanicOk.lq (PanicOk.body _ _ _)) (Hp.le_refl _) 10 _ _ ?_; (conv => arg 5; cbv); simp only [Res.ok]))
    refine ⟨fun hh => ?_, fun _ => ?_⟩
    · exfalso
      revert hh
      obtain ⟨rfl, rfl, rfl, rfl, rfl, rfl, rfl, rfl, rfl, rfl, rfl, rfl, rfl, rfl, rfl, rfl, rfl, rfl, rfl, rfl, rfl, rfl, rfl, rfl, rfl, rfl, rfl⟩ := Ops.mk.inj hO
      simp [Ops.std]
    have cS4 := Same_true ⟨l.b, l.bt, l.j, some ⟨b, 0, none⟩, l.n, cN, l.es⟩ q HJ (hlX.mono lJ) (hq.mono (Hp.le_trans hX lJ)) (by show l.n ≤ 1048576; omega) ⟨hql.1.symm, hql.2.1.symm, hql.2.2.1.symm, hql.2.2.2.symm⟩
    refine EvG.pure Try.call19 (fun _ => rfl) (cS4) ?_
    rintro HK v hlK rfl
    refine ⟨.kb true, _, fun _ => (by first | exact rfl | exact ⟨_, rfl, rfl⟩ | exact aggT_den _ _), rfl, ?_⟩
    replace hlK : Hp.le HJ HK := hlK
    have lK := Hp.le_trans lJ hlK
    iterate 8 (try (refine run_sound (E := E5 ⟨oW, oA, oS, oM, oBa, oBo, oBx, oBn, oE, oN, oL, oLe, oAnd, oOr, oNot, oBq, oSq, oMx, oMn, oC, oSz, oAd, oIx, oQu, oRe, oSl, oSr⟩ _) TEok hO Tm D5ok (PanicOk.lq (PanicOk.body _ _ _)) (Hp.le_refl _) 10 _ _ ?_; (conv => arg 5; cbv); simp only [Res.ok]))
    refine ⟨fun hh => (by rw [hnt] at hh; cases hh), fun _ => ?_⟩
    iterate 8 (try (refine run_sound (E := E5 ⟨oW, oA, oS, oM, oBa, oBo, oBx, oBn, oE, oN, oL, oLe, oAnd, oOr, oNot, oBq, oSq, oMx, oMn, oC, oSz, oAd, oIx, oQu, oRe, oSl, oSr⟩ _) TEok hO Tm D5ok (PanicOk.lq (PanicOk.body _ _ _)) (Hp.le_refl _) 10 _ _ ?_; (conv => arg 5; cbv); simp only [Res.ok]))
    rw [hq1]
    refine ⟨Int.le_refl 0, by show (0 : Int) ≤ (s1 : Int); omega, by show (s1 : Int) ≤ cN; omega, fun A' n' c' hA' hn' hc' => ⟨_, rfl, ?_⟩⟩
    have hA' : A' = some ⟨b, 0, none⟩ := by
      rw [hA']
      split
      · rfl
      · simp [Addr.add]
    subst hA'
    have hn' : s1 = n' := by rw [hn']; show s1 = (s1 : Int).toNat - 0; omega
    subst hn'
    iterate 8 (try (refine run_sound (E := E5 ⟨oW, oA, oS, oM, oBa, oBo, oBx, oBn, oE, oN, oL, oLe, oAnd, oOr, oNot, oBq, oSq, oMx, oMn, oC, oSz, oAd, oIx, oQu, oRe, oSl, oSr⟩ _) TEok hO Tm D5ok (PanicOk.lq (PanicOk.body _ _ _)) (Hp.le_refl _) 10 _ _ ?_; (conv => arg 5; cbv); simp only [Res.ok]))
    rw [hq0]
    refine ⟨by omega, by show (l.n : Int) < (s1 : Int); omega, ⟨b, 0, none⟩, rfl, fun pa hpa => ⟨_, rfl, ?_⟩⟩
    have hpa : pa = ⟨b, off, none⟩ := by
      rw [hpa, show (l.n : Int).toNat * 14 = off by omega]
      unfold Addr.add
      split
      · rename_i h; rw [h]
      · simp
    subst hpa
    iterate 2 (try (refine run_sound (E := E5 ⟨oW, oA, oS, oM, oBa, oBo, oBx, oBn, oE, oN, oL, oLe, oAnd, oOr, oNot, oBq, oSq, oMx, oMn, oC, oSz, oAd, oIx, oQu, oRe, oSl, oSr⟩ _) TEok hO Tm D5ok (PanicOk.lq (PanicOk.body _ _ _)) (Hp.le_refl _) 10 _ _ ?_; (conv => arg 5; cbv); simp only [Res.ok]))
    refine ⟨zEntry, rfl, fun j v hv => hat_mono (Hp.le_trans hX lE) (hz0 j v hv), .inl ⟨rfl, _, rfl, ?_⟩⟩
    iterate 8 (try (refine run_sound (E := E5 ⟨oW, oA, oS, oM, oBa, oBo, oBx, oBn, oE, oN, oL, oLe, oAnd, oOr, oNot, oBq, oSq, oMx, oMn, oC, oSz, oAd, oIx, oQu, oRe, oSl, oSr⟩ _) TEok hO Tm D5ok (PanicOk.lq (PanicOk.body _ _ _)) (Hp.le_refl _) 10 _ _ ?_; (conv => arg 5; cbv); simp only [Res.ok]))
    refine ⟨fun hh => ?_, fun _ => ?_⟩
    · exfalso
      revert hh
      obtain ⟨rfl, rfl, rfl, rfl, rfl, rfl, rfl, rfl, rfl, rfl, rfl, rfl, rfl, rfl, rfl, rfl, rfl, rfl, rfl, rfl, rfl, rfl, rfl, rfl, rfl, rfl, rfl⟩ := Ops.mk.inj hO
      simp [Ops.std]
    have h0X : Hp.le G'.H0 HX := Hp.le_trans hH0 hX
    have hk1 : oA .i64 ki 1 = ((k + 1 : Nat) : Int) := by
      obtain ⟨rfl, rfl, rfl, rfl, rfl, rfl, rfl, rfl, rfl, rfl, rfl, rfl, rfl, rfl, rfl, rfl, rfl, rfl, rfl, rfl, rfl, rfl, rfl, rfl, rfl, rfl, rfl⟩ := Ops.mk.inj hO
      rw [← hki]
      exact w64 (by omega) (by omega)
    refine EvG.wipe a Roa hao (fun r hr => (by show r ∈ Roc ++ (Rob ++ (Roa ++ [])); simp [hr])) (by rw [ha.1, has.2.2.2, List.length_append, List.length_singleton]; show l.es.length + 1 ≤ 1000; rw [← hl.1]; omega) ha.2.1 HX (by exact lK) hfa h0X rfl ?_
    intro HL RL hlL hRL
    refine ⟨_, rfl, ?_⟩
    have hRb : ∀ r ∈ Rob, r ∈ RL := fun r hr => hRL r (by show r ∈ Roc ++ (Rob ++ (Roa ++ [])); simp [hr]) fun h0 => hao.apart ha (hfb r hr) h0
    have hRc : ∀ r ∈ Roc', r ∈ RL := fun r hr => hRL r (by show r ∈ Roc ++ (Rob ++ (Roa ++ [])); simp [hsub.subset hr]) fun h0 => hao.apart (SVok.mono ha (Hp.le_trans hlB hlC)) (hfc r (hsub.subset hr)) h0
    iterate 8 (try (refine run_sound (E := E5 ⟨oW, oA, oS, oM, oBa, oBo, oBx, oBn, oE, oN, oL, oLe, oAnd, oOr, oNot, oBq, oSq, oMx, oMn, oC, oSz, oAd, oIx, oQu, oRe, oSl, oSr⟩ _) TEok hO Tm D5ok (PanicOk.lq (PanicOk.body _ _ _)) (Hp.le_refl _) 10 _ _ ?_; (conv => arg 5; cbv); simp only [Res.ok]))
    refine ⟨fun hM2 => ?_, fun hM2 => ?_⟩
    · iterate 8 (try (refine run_sound (E := E5 ⟨oW, oA, oS, oM, oBa, oBo, oBx, oBn, oE, oN, oL, oLe, oAnd, oOr, oNot, oBq, oSq, oMx, oMn, oC, oSz, oAd, oIx, oQu, oRe, oSl, oSr⟩ _) TEok hO Tm D5ok (PanicOk.lq (PanicOk.body _ _ _)) (Hp.le_refl _) 10 _ _ ?_; (conv => arg 5; cbv); simp only [Res.ok]))
      refine EvG.wipe m Rob hmo hRb (by omega) hm.2.1 HX (by exact hlL) (fun r hr => Hp.none_le hlA (hfb r hr)) h0X rfl ?_
      intro HM RM hlM hRM
      refine ⟨_, rfl, ?_⟩
      iterate 8 (try (refine run_sound (E := E5 ⟨oW, oA, oS, oM, oBa, oBo, oBx, oBn, oE, oN, oL, oLe, oAnd, oOr, oNot, oBq, oSq, oMx, oMn, oC, oSz, oAd, oIx, oQu, oRe, oSl, oSr⟩ _) TEok hO Tm D5ok (PanicOk.lq (PanicOk.body _ _ _)) (Hp.le_refl _) 10 _ _ ?_; (conv => arg 5; cbv); simp only [Res.ok]))
      have hRc1 : ∀ r ∈ Roc', r ∈ RM := fun r hr => hRM r (hRc r hr) fun h0 => hmo.apart (SVok.mono hm hlC) (hfc r (hsub.subset hr)) h0
      refine EvG.wipe c Roc' hco hRc1 (by rw [hcc.1, hcs.2.2.2]; omega) hcc.2.1 HX (by exact hlM) (fun r hr => Hp.none_le lC (hfc r (hsub.subset hr))) h0X rfl ?_
      intro HN RN hlN _
      refine ⟨_, rfl, ?_⟩
      iterate 8 (try (refine run_sound (E := E5 ⟨oW, oA, oS, oM, oBa, oBo, oBx, oBn, oE, oN, oL, oLe, oAnd, oOr, oNot, oBq, oSq, oMx, oMn, oC, oSz, oAd, oIx, oQu, oRe, oSl, oSr⟩ _) TEok hO Tm D5ok (PanicOk.lq (PanicOk.body _ _ _)) (Hp.le_refl _) 10 _ _ ?_; (conv => arg 5; cbv); simp only [Res.ok]))
      rw [hk1]
      refine FinG.ghost (fun β w g => g.dropR (List.nil_sublist _) (fun q hq => by cases hq)) ?_
      exact FinG.roundB [2, 3, 4, 5, 6, 7, 13, 14] 3 (k + 1, HN) ⟨by show k + 1 ≤ 2; omega, Hp.le_trans hX hlN⟩ (by show 2 - (k + 1) < 2 - k; omega) rfl rfl rfl rfl
    · iterate 8 (try (refine run_sound (E := E5 ⟨oW, oA, oS, oM, oBa, oBo, oBx, oBn, oE, oN, oL, oLe, oAnd, oOr, oNot, oBq, oSq, oMx, oMn, oC, oSz, oAd, oIx, oQu, oRe, oSl, oSr⟩ _) TEok hO Tm D5ok (PanicOk.lq (PanicOk.body _ _ _)) (Hp.le_refl _) 10 _ _ ?_; (conv => arg 5; cbv); simp only [Res.ok]))
      have hRc2 : ∀ r ∈ Roc', r ∈ RL := hRc
      refine EvG.wipe c Roc' hco hRc2 (by rw [hcc.1, hcs.2.2.2]; omega) hcc.2.1 HX (by exact hlL) (fun r hr => Hp.none_le lC (hfc r (hsub.subset hr))) h0X rfl ?_
      intro HN RN hlN _
      refine ⟨_, rfl, ?_⟩
      iterate 8 (try (refine run_sound (E := E5 ⟨oW, oA, oS, oM, oBa, oBo, oBx, oBn, oE, oN, oL, oLe, oAnd, oOr, oNot, oBq, oSq, oMx, oMn, oC, oSz, oAd, oIx, oQu, oRe, oSl, oSr⟩ _) TEok hO Tm D5ok (PanicOk.lq (PanicOk.body _ _ _)) (Hp.le_refl _) 10 _ _ ?_; (conv => arg 5; cbv); simp only [Res.ok]))
      rw [hk1]
      refine FinG.ghost (fun β w g => g.dropR (List.nil_sublist _) (fun q hq => by cases hq)) ?_
      exact FinG.roundB [2, 3, 4, 5, 6, 7, 13, 14] 3 (k + 1, HN) ⟨by show k + 1 ≤ 2; omega, Hp.le_trans hX hlN⟩ (by show 2 - (k + 1) < 2 - k; omega) rfl rfl rfl rfl
  · refine FinG.leave rfl rfl ?_
    refine run_sound (E := E5 ⟨oW, oA, oS, oM, oBa, oBo, oBx, oBn, oE, oN, oL, oLe, oAnd, oOr, oNot, oBq, oSq, oMx, oMn, oC, oSz, oAd, oIx, oQu, oRe, oSl, oSr⟩ _) TEok hO Tm D5ok (PanicOk.body _ _ _) (Hp.le_refl _) 4000 _ _ ?_
    conv => arg 5; cbv
    simp only [Res.ok]
    exact RetG.pc TEok C5r e1 e2 e3 (fun _ => rfl) rfl
end Go.Sx
