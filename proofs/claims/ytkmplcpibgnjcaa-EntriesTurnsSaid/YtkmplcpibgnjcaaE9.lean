/- Contracts: a log of terms that rise by steps. -/
import Derived.Test.YtkmplcpibgnjcaaE8
import Derived.Laws.BytesString
namespace Go.Sx
open Go.Proofs Go.RowKit

def u8V (b : UInt8) : Value := .int .u8 (b.toNat : Int)
theorem foldl_bytes : ∀ (bs : List UInt8) (s : ByteArray), (bs.map fun b => (b.toNat : Int)).foldl (fun r n => r.push (UInt8.ofNat n.toNat)) s = ⟨s.data ++ bs.toArray⟩
  | [], s => by simp
  | b :: bs, s => by
    simp only [List.map_cons, List.foldl_cons, foldl_bytes bs]
    congr 1
    simp [ByteArray.push]
/-- bytes become a string -/
theorem EvG.b2s {P : Program} {C : Code} {Q : Exit → Act → World → Prop} {G : Gh} {d : Option Nat} {its : List It} {st : St} {src dst e ty : TypeId} {x : Operand} {A : Option Addr} {n c : Nat}
    (hs : P.underlying src = some (.slice e)) (he : P.underlying e = some (.int .u8)) (hd : P.underlying dst = some .string) (bs : List UInt8) (hr : Rw G.H 1 A n (bs.map u8V))
    (h : ∃ st', st.put d (.t (.c (.v (.string ⟨bs.toArray⟩)))) = some st' ∧ WP P C Q G its st') : EvG P C Q G d its st (.prim (.convert src dst x) ty [.c (.v (.slice A n c))]) := by
  intro hit β w vs ρ g hvs hops
  obtain ⟨st', hp, hw⟩ := h
  cases hvs
  have hx : ρ x = .slice A n c := by simpa [Op.operands] using hops
  have hbx := put_same_bx hp
  refine .inl ⟨.string ⟨bs.toArray⟩, w, .t (.c (.v (.string ⟨bs.toArray⟩))), st', G, [], st'.bx, ?_, rfl, hp, by rw [List.append_nil, hbx]; exact g, by rw [hbx]; exact hit, hw⟩
  have hrun : (convert src dst (.slice A n c)).run P w = .ok (.string ⟨bs.toArray⟩) w := by
    rw [run_convert_bytes_string w src dst e A n c hs he hd]
    cases A with
    | none =>
      have : bs = [] := by
        cases bs with
        | nil => rfl
        | cons b bs => obtain ⟨ad, h1, _⟩ := hr.2 0 (u8V b) rfl; cases h1
      subst this
      simp [Conv.bytesToString, ByteArray.empty, ByteArray.emptyWithCapacity]
      rfl
    | some a =>
      have hn : n = bs.length := by have := hr.1; simpa using this.symm
      have h1 := run_loadCells_list (P := P) w a (bs.map u8V) (hr.cells g.imm)
      rw [List.length_map, ← hn] at h1
      rw [run_bytesToString w a n c (bs.map fun b => (b.toNat : Int)) (by rw [List.map_map]; exact h1), foldl_bytes]
      simp [ByteArray.empty, ByteArray.emptyWithCapacity]
      rfl
  simp only [execOp, hx, Sem.run_bind, hrun, Result.andThen_ok, Sem.run_pure]

theorem byte_get {H : Hp} {A : Option Addr} {n : Nat} {bs : List UInt8} {k : Int} (hr : Rw H 1 A n (bs.map u8V)) (h0 : 0 ≤ k) (h1 : k < n) :
    ∃ b ad, bs[k.toNat]? = some b ∧ A = some ad ∧ ∀ pa, pa = ad.add (k.toNat * 1) → hat H pa 0 = some (u8V b) := by
  have hl : n = bs.length := by have := hr.1; simpa using this.symm
  have hk : k.toNat < bs.length := by omega
  obtain ⟨ad, h2, h3⟩ := hr.2 k.toNat (u8V bs[k.toNat]) (by simp [hk])
  refine ⟨bs[k.toNat], ad, by simp [hk], h2, fun pa hpa => ?_⟩
  subst hpa
  rw [hat_add (hat_spot h3)]
  simpa using h3
def stepT (t : Int) (b : UInt8) : Int := t + ((b.toNat % 3 : Nat) : Int)
def madeE : Int → List UInt8 → List Entry
  | _, [] => []
  | t, b :: r => ⟨stepT t b, 1, ⟨#[b]⟩, .zero⟩ :: madeE (stepT t b) r
theorem madeE_len : ∀ (t : Int) (bs : List UInt8), (madeE t bs).length = bs.length
  | _, [] => rfl
  | t, b :: r => by simp [madeE, madeE_len (stepT t b) r]
theorem madeE_snoc : ∀ (t : Int) (bs : List UInt8) (b : UInt8), madeE t (bs ++ [b]) = madeE t bs ++ [⟨stepT (bs.foldl stepT t) b, 1, ⟨#[b]⟩, .zero⟩]
  | _, [], _ => rfl
  | t, a :: r, b => by simp [madeE, madeE_snoc (stepT t a) r b]
theorem stepT_bd : ∀ (bs : List UInt8) (t : Int), t ≤ bs.foldl stepT t ∧ bs.foldl stepT t ≤ t + 2 * bs.length
  | [], t => by simp
  | b :: r, t => by
    have h := stepT_bd r (stepT t b)
    have : stepT t b ≤ t + 2 ∧ t ≤ stepT t b := by unfold stepT; omega
    simp only [List.foldl_cons, List.length_cons]
    omega

structure Mk where
  k : Nat
  A : Option Addr
  n : Nat
  c : Nat
  G : Gh
structure Mk.ok (x : Mk) (w : World) (H : Hp) (t : Int) (bs : List UInt8) : Prop where
  w0 : x.G.w0 = w
  M : x.G.M = fun _ => False
  H0 : x.G.H0 = H
  le : Hp.le H x.G.H
  k : x.k ≤ bs.length
  sv : SVok x.G.H x.A x.n x.c (madeE t (bs.take x.k))
  own : Own x.G x.A x.n x.c 14 47
noncomputable def C13 : Code := fbody Try.f13
theorem C13b : Try.f13.body = some C13 := by kernel_rfl
theorem C13r : Try.f13.results.toList = [.cell 6 32] := by kernel_rfl
def D13 : List (List Nat) := [[1, 0, 0, 1, 0, 0, 1, 0, 1, 1, 1]]
theorem D13ok : drOk C13 D13 = true := by kernel_rfl
noncomputable def E13 (O : Ops) (H : Hp) : Env := ⟨O, H, TE, C13, [.cell 6 32], D13⟩
theorem made_pc (A : Option Addr) (n c : Nat) (bs : List UInt8) (base bt : Int) (H : Hp) (hr : Rw H 1 A n (bs.map u8V)) (hn : n ≤ 1000) (hb : 0 ≤ bt) (hb' : bt ≤ 1099511627776) :
    PC Try.prog 13 [.slice A n c, .int .i64 base, .int .i64 bt] H fun H' v => ∃ l' : LV, v = aggV l'.cs ∧ l'.ok H' ∧ l'.b = base ∧ l'.bt = bt ∧ l'.j = .zero ∧ l'.es = madeE (max bt 1) bs := by
  have hnl : n = bs.length := by have := hr.1; simpa using this.symm
  refine PC.enter [.c (.v (.slice A n c)), .c (.v (.int .i64 base)), .c (.v (.int .i64 bt))] Try.func13 C13b rfl 43 Try.ntmps13 (by simp) fun w hw => ?_
  refine ops_open fun oW oA oS oM oBa oBo oBx oBn oE oN oL oLe oAnd oOr oNot oBq oSq oMx oMn oC oSz oAd oIx oQu oRe oSl oSr hO => ?_
  have hmx : oMx bt 1 = max bt 1 := by
    obtain ⟨rfl, rfl, rfl, rfl, rfl, rfl, rfl, rfl, rfl, rfl, rfl, rfl, rfl, rfl, rfl, rfl, rfl, rfl, rfl, rfl, rfl, rfl, rfl, rfl, rfl, rfl, rfl⟩ := Ops.mk.inj hO
    show (if 1 > bt then (1 : Int) else bt) = max bt 1
    omega
  refine run_sound (E := E13 ⟨oW, oA, oS, oM, oBa, oBo, oBx, oBn, oE, oN, oL, oLe, oAnd, oOr, oNot, oBq, oSq, oMx, oMn, oC, oSz, oAd, oIx, oQu, oRe, oSl, oSr⟩ H) TEok hO Tm D13ok (PanicOk.body _ _ _) (Hp.le_refl _) 4000 _ _ ?_
  conv => arg 5; cbv
  simp only [Res.ok]
  rw [hmx]
  obtain ⟨t0, ht0⟩ : ∃ t0, max bt 1 = t0 := ⟨_, rfl⟩
  rw [ht0]
  refine LoopG.mk [0, 6, 7, 8, 9] (fun x : Mk => x.ok w H t0 bs)
    (fun x => { n := 43, t := [(0, SlV A n c), (6, .t (.c (.p 0 0))), (7, .t (.c (.p 1 0))), (8, iV ((bs.take x.k).foldl stepT t0)), (9, iV x.k)], g := [], bx := [zLog.map .v, (logCs base bt .zero x.A x.n x.c).map .v] })
    Mk.G (fun x => n - x.k) ⟨0, none, 0, 0, Gh.start w H⟩ rfl ⟨_, rfl⟩ ⟨rfl, rfl, rfl, Hp.le_refl _, Nat.zero_le _, SVok.nil, .inl ⟨rfl, rfl, rfl⟩⟩ rfl rfl ?_
  rintro ⟨k, A1, n1, c1, G⟩ hx
  obtain ⟨h1, h2, h3, h4, h5, h6, h7⟩ := id hx
  simp only at h1 h2 h3 h4 h5 h6 h7 ⊢
  obtain ⟨ki, hki⟩ : ∃ ki : Int, (k : Int) = ki := ⟨_, rfl⟩
  obtain ⟨t, ht⟩ : ∃ t, (bs.take k).foldl stepT t0 = t := ⟨_, rfl⟩
  rw [hki, ht]
  refine run_sound (E := E13 ⟨oW, oA, oS, oM, oBa, oBo, oBx, oBn, oE, oN, oL, oLe, oAnd, oOr, oNot, oBq, oSq, oMx, oMn, oC, oSz, oAd, oIx, oQu, oRe, oSl, oSr⟩ G.H) TEok hO Tm D13ok (PanicOk.lq (PanicOk.body _ _ _)) (Hp.le_refl _) 4000 _ _ ?_
  conv => arg 5; cbv
  simp only [Res.ok]
  refine ⟨fun hh => ?_, fun hh => ?_⟩
  · have hlt : ki < n := by
      obtain ⟨rfl, rfl, rfl, rfl, rfl, rfl, rfl, rfl, rfl, rfl, rfl, rfl, rfl, rfl, rfl, rfl, rfl, rfl, rfl, rfl, rfl, rfl, rfl, rfl, rfl, rfl, rfl⟩ := Ops.mk.inj hO
      simpa [Ops.std] using hh
    obtain ⟨b, ad, hbk, hA, hgt⟩ := byte_get (hr.mono h4) (k := ki) (by omega) hlt
    have hkn : ki.toNat = k := by omega
    rw [hkn] at hbk
    obtain ⟨bi, hbi⟩ : ∃ bi : Int, (b.toNat : Int) = bi := ⟨_, rfl⟩
    have hgt : ∀ pa, pa = ad.add (ki.toNat * 1) → hat G.H pa 0 = some (Value.int .u8 bi) := fun pa hpa => by rw [← hbi]; exact hgt pa hpa
    have hst : oA .i64 t (oW .i64 (oRe .u8 bi 3)) = stepT t b := by
      have hb1 : bi.tmod 3 = ((b.toNat % 3 : Nat) : Int) := by rw [← hbi]; rfl
      have hb2 := (stepT_bd (bs.take k) t0).2
      have hb3 := (stepT_bd (bs.take k) t0).1
      have hb4 : (bs.take k).length ≤ 1000 := by simp; omega
      rw [ht] at hb2 hb3
      obtain ⟨rfl, rfl, rfl, rfl, rfl, rfl, rfl, rfl, rfl, rfl, rfl, rfl, rfl, rfl, rfl, rfl, rfl, rfl, rfl, rfl, rfl, rfl, rfl, rfl, rfl, rfl, rfl⟩ := Ops.mk.inj hO
      show IntKind.i64.wrap (t + IntKind.i64.wrap (bi.tmod 3)) = _
      rw [hb1, w64 (n := ((b.toNat % 3 : Nat) : Int)) (by omega) (by omega)]
      exact w64 (by omega) (by omega)
    have htake : bs.take (k + 1) = bs.take k ++ [b] := by
      rw [List.take_add_one, hbk]; rfl
    refine ⟨by omega, hlt, ad, hA, fun pa hpa => ⟨_, rfl, ?_⟩⟩
    have hp := hgt pa hpa
    refine run_sound (E := E13 ⟨oW, oA, oS, oM, oBa, oBo, oBx, oBn, oE, oN, oL, oLe, oAnd, oOr, oNot, oBq, oSq, oMx, oMn, oC, oSz, oAd, oIx, oQu, oRe, oSl, oSr⟩ G.H) TEok hO Tm D13ok (PanicOk.lq (PanicOk.body _ _ _)) (Hp.le_refl _) 4000 _ _ ?_
    conv => arg 5; cbv
    simp only [Res.ok]
    refine ⟨[.int .u8 bi], rfl, fun j v hv => ?_, .inr ⟨rfl, _, _, rfl, rfl, ?_⟩⟩
    · cases j with
      | zero => simp at hv; subst hv; exact hp
      | succ j => simp at hv
    refine run_sound (E := E13 ⟨oW, oA, oS, oM, oBa, oBo, oBx, oBn, oE, oN, oL, oLe, oAnd, oOr, oNot, oBq, oSq, oMx, oMn, oC, oSz, oAd, oIx, oQu, oRe, oSl, oSr⟩ G.H) TEok hO Tm D13ok (PanicOk.lq (PanicOk.body _ _ _)) (Hp.le_refl _) 4000 _ _ ?_
    conv => arg 5; cbv
    simp only [Res.ok]
    rw [hst]
    obtain ⟨t', ht'⟩ : ∃ t', stepT t b = t' := ⟨_, rfl⟩
    rw [ht']
    refine ⟨by omega, hlt, ad, hA, fun pa hpa => ⟨_, rfl, ?_⟩⟩
    have hp := hgt pa hpa
    refine run_sound (E := E13 ⟨oW, oA, oS, oM, oBa, oBo, oBx, oBn, oE, oN, oL, oLe, oAnd, oOr, oNot, oBq, oSq, oMx, oMn, oC, oSz, oAd, oIx, oQu, oRe, oSl, oSr⟩ G.H) TEok hO Tm D13ok (PanicOk.lq (PanicOk.body _ _ _)) (Hp.le_refl _) 4000 _ _ ?_
    conv => arg 5; cbv
    simp only [Res.ok]
    refine ⟨[.int .u8 bi], rfl, fun j v hv => ?_, .inr ⟨rfl, _, _, rfl, rfl, ?_⟩⟩
    · cases j with
      | zero => simp at hv; subst hv; exact hp
      | succ j => simp at hv
    refine run_sound (E := E13 ⟨oW, oA, oS, oM, oBa, oBo, oBx, oBn, oE, oN, oL, oLe, oAnd, oOr, oNot, oBq, oSq, oMx, oMn, oC, oSz, oAd, oIx, oQu, oRe, oSl, oSr⟩ G.H) TEok hO Tm D13ok (PanicOk.lq (PanicOk.body _ _ _)) (Hp.le_refl _) 4000 _ _ ?_
    conv => arg 5; cbv
    simp only [Res.ok]
    refine fun hit => ⟨[.int .u8 bi], rfl, fun bb hbb => ⟨_, rfl, ?_⟩⟩
    have hle1 : Hp.le G.H (G.H.add bb 0 [.int .u8 bi]) := Hp.le_add fun o _ => hbb o
    have hrw1 : Rw (G.H.add bb 0 [.int .u8 bi]) 1 (some ⟨bb, 0, none⟩) 1 ([b].map u8V) := by
      simp only [List.map, u8V, hbi]
      exact Rw.fresh rfl
    refine run_sound (E := E13 ⟨oW, oA, oS, oM, oBa, oBo, oBx, oBn, oE, oN, oL, oLe, oAnd, oOr, oNot, oBq, oSq, oMx, oMn, oC, oSz, oAd, oIx, oQu, oRe, oSl, oSr⟩ (G.H.add bb 0 [.int .u8 bi])) TEok hO Tm D13ok (PanicOk.lq (PanicOk.body _ _ _)) (Hp.le_refl _) 4000 _ _ ?_
    conv => arg 5; cbv
    simp only [Res.ok]
    refine EvG.b2s Try.underlying22 Try.underlying5 Try.underlying9 [b] hrw1 ⟨_, rfl, ?_⟩
    obtain ⟨sx, hsx⟩ : ∃ sx : ByteArray, ⟨[b].toArray⟩ = sx := ⟨_, rfl⟩
    rw [hsx]
    refine run_sound (E := E13 ⟨oW, oA, oS, oM, oBa, oBo, oBx, oBn, oE, oN, oL, oLe, oAnd, oOr, oNot, oBq, oSq, oMx, oMn, oC, oSz, oAd, oIx, oQu, oRe, oSl, oSr⟩ (G.H.add bb 0 [.int .u8 bi])) TEok hO Tm D13ok (PanicOk.lq (PanicOk.body _ _ _)) (Hp.le_refl _) 4000 _ _ ?_
    conv => arg 5; cbv
    simp only [Res.ok]
    refine fun hit => ⟨flatE [⟨t', 1, sx, .zero⟩], rfl, fun b2 hb2 => ⟨_, rfl, ?_⟩⟩
    have hle2 : Hp.le (G.H.add bb 0 [.int .u8 bi]) ((G.H.add bb 0 [.int .u8 bi]).add b2 0 (flatE [⟨t', 1, sx, .zero⟩])) := Hp.le_add fun o _ => hb2 o
    have hsv1 : SVok ((G.H.add bb 0 [.int .u8 bi]).add b2 0 (flatE [⟨t', 1, sx, .zero⟩])) (some ⟨b2, 0, none⟩) 1 1 [⟨t', 1, sx, .zero⟩] := SVok.fresh rfl (Nat.le_refl _)
    have hle12 := Hp.le_trans hle1 hle2
    have hm1 : n1 = (madeE t0 (bs.take k)).length := h6.1
    have hm2 : n1 ≤ 1000 := by rw [hm1, madeE_len]; simp; omega
    refine run_sound (E := E13 ⟨oW, oA, oS, oM, oBa, oBo, oBx, oBn, oE, oN, oL, oLe, oAnd, oOr, oNot, oBq, oSq, oMx, oMn, oC, oSz, oAd, oIx, oQu, oRe, oSl, oSr⟩ ((G.H.add bb 0 [.int .u8 bi]).add b2 0 (flatE [⟨t', 1, sx, .zero⟩]))) TEok hO Tm D13ok (PanicOk.lq (PanicOk.body _ _ _)) (Hp.le_refl _) 4000 _ _ ?_
    conv => arg 5; cbv
    simp only [Res.ok]
    refine fun hit => ⟨flatE (madeE t0 (bs.take k)), flatE [⟨t', 1, sx, .zero⟩], (h6.mono hle12).rw, hsv1.rw, flatE_one, h6.2.1, by omega, h7.nc, h7.room, fun A' c' G' hn' hle' hrw hc' => ⟨_, rfl, ?_⟩⟩
    have hx' : Mk.ok ⟨k + 1, A', n1 + 1, c', G'⟩ w H t0 bs := ⟨hn'.same.1.trans h1, hn'.same.2.1.trans h2, hn'.same.2.2.trans h3, Hp.le_trans h4 (Hp.le_trans hle12 hle'), by show k + 1 ≤ bs.length; omega, by
      show SVok G'.H A' (n1 + 1) c' (madeE t0 (bs.take (k + 1)))
      rw [htake, madeE_snoc, ht, ht', hsx]
      exact SVok.of (by simp [← hm1]) hc' (by rw [flatE_append]; exact hrw), hn'.own h7⟩
    have hk1 : oA .i64 ki 1 = ((k + 1 : Nat) : Int) := by
      obtain ⟨rfl, rfl, rfl, rfl, rfl, rfl, rfl, rfl, rfl, rfl, rfl, rfl, rfl, rfl, rfl, rfl, rfl, rfl, rfl, rfl, rfl, rfl, rfl, rfl, rfl, rfl, rfl⟩ := Ops.mk.inj hO
      rw [← hki]
      exact w64 (by omega) (by omega)
    obtain ⟨nn, hnn⟩ : ∃ nn, n1 + 1 = nn := ⟨_, rfl⟩
    rw [hnn] at hx' ⊢
    refine run_sound (E := E13 ⟨oW, oA, oS, oM, oBa, oBo, oBx, oBn, oE, oN, oL, oLe, oAnd, oOr, oNot, oBq, oSq, oMx, oMn, oC, oSz, oAd, oIx, oQu, oRe, oSl, oSr⟩ G'.H) TEok hO Tm D13ok (PanicOk.lq (PanicOk.body _ _ _)) (Hp.le_refl _) 4000 _ _ ?_
    conv => arg 5; cbv
    simp only [Res.ok]
    rw [hk1]
    exact FinG.round [0, 6, 7, 8, 9] ⟨k + 1, A', nn, c', G'⟩ hx' (by show n - (k + 1) < n - k; omega) (by simp only [htake, List.foldl_append, List.foldl_cons, List.foldl_nil, ht, ht']; rfl) rfl
  · have hge : ¬ ki < n := by
      obtain ⟨rfl, rfl, rfl, rfl, rfl, rfl, rfl, rfl, rfl, rfl, rfl, rfl, rfl, rfl, rfl, rfl, rfl, rfl, rfl, rfl, rfl, rfl, rfl, rfl, rfl, rfl, rfl⟩ := Ops.mk.inj hO
      simpa [Ops.std] using hh
    refine FinG.leave rfl rfl ?_
    refine run_sound (E := E13 ⟨oW, oA, oS, oM, oBa, oBo, oBx, oBn, oE, oN, oL, oLe, oAnd, oOr, oNot, oBq, oSq, oMx, oMn, oC, oSz, oAd, oIx, oQu, oRe, oSl, oSr⟩ G.H) TEok hO Tm D13ok (PanicOk.body _ _ _) (Hp.le_refl _) 4000 _ _ ?_
    conv => arg 5; cbv
    simp only [Res.ok]
    have hk : bs.take k = bs := by rw [List.take_of_length_le (by omega)]
    rw [hk] at h6
    exact RetG.pc TEok C13r h1 h2 h3 (fun _ => rfl) ⟨⟨base, bt, .zero, A1, n1, c1, madeE t0 bs⟩, rfl, h6, rfl, rfl, rfl, rfl⟩
end Go.Sx
