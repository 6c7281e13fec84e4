/- The values of the layer entries, and the first contracts. -/
import Derived.Test.YtkmplcpibgnjcaaSxW
import Derived.Test.YtkmplcpibgnjcaaProg
namespace Go.Sx
open Go.Proofs Go.RowKit

theorem AppNext.ownR0 {G G' : Gh} {k : Nat} {e : TypeId} {A A' : Option Addr} {c' m : Nat} {xs ys : List Value} (h : AppNext G k e A 0 0 m xs ys A' c' G') : ∃ Ro, Ro.Sublist G'.R ∧ OwnR Ro A' (0 + m) c' k e := by
  rcases h with ⟨rfl, rfl, rfl, rfl⟩ | ⟨b, _, rfl, rfl, _, _, rfl⟩ | ⟨b, _, rfl, _, rfl⟩
  · exact ⟨[], List.nil_sublist _, .inl ⟨rfl, rfl, rfl⟩⟩
  · rename_i h1 _ _
    exact ⟨_, List.singleton_sublist.2 List.mem_cons_self, .inr ⟨b, h1, rfl⟩⟩
  · exact ⟨_, List.singleton_sublist.2 List.mem_cons_self, .inr ⟨b, rfl, rfl⟩⟩
theorem Own.ownR {G : Gh} {A : Option Addr} {n c k : Nat} {e : TypeId} (h : Own G A n c k e) : ∃ Ro, Ro.Sublist G.R ∧ OwnR Ro A n c k e := by
  rcases h with ⟨_, h1, h2⟩ | ⟨b, h1, h2⟩
  · exact ⟨[], List.nil_sublist _, .inl ⟨h1, h2, rfl⟩⟩
  · exact ⟨_, List.singleton_sublist.2 h2, .inr ⟨b, h1, rfl⟩⟩
structure Config where
  voters : Int
  witnesses : Int
  learners : Int
  elect : Int
  commit : Int
structure Joint where
  old : Config
  new : Config
  two : Bool
structure Entry where
  term : Int
  kind : Int
  data : ByteArray
  conf : Joint
structure Log where
  base : Int
  baseTerm : Int
  conf : Joint
  entries : List Entry
def Config.cs (c : Config) : List Value := [.int .u16 c.voters, .int .u16 c.witnesses, .int .u16 c.learners, .int .i64 c.elect, .int .i64 c.commit]
def Joint.cs (j : Joint) : List Value := j.old.cs ++ j.new.cs ++ [.bool j.two]
def Entry.cs (e : Entry) : List Value := [.int .i64 e.term, .int .i64 e.kind, .string e.data] ++ e.conf.cs
def Config.zero : Config := ⟨0, 0, 0, 0, 0⟩
def Joint.zero : Joint := ⟨.zero, .zero, false⟩
def Entry.zero : Entry := ⟨0, 0, ⟨#[]⟩, .zero⟩
def logCs (b bt : Int) (j : Joint) (A : Option Addr) (n c : Nat) : List Value := [.int .i64 b, .int .i64 bt] ++ j.cs ++ [.slice A n c]
def aggT (l : List Value) : TV := .agg (l.map .v)
def aggV (l : List Value) : Value := .agg l.toArray
theorem aggT_den (β : Bl) (l : List Value) : (aggT l).den β = some (aggV l) := by simp [aggT, aggV, TV.den, denL_v]

theorem row_get {H : Hp} {A : Option Addr} {es : List Entry} {k : Int} (hr : Row H 14 A (es.map Entry.cs)) (h0 : 0 ≤ k) (h1 : k < es.length) :
    ∃ e ad, es[k.toNat]? = some e ∧ A = some ad ∧ ∀ pa, pa = ad.add (k.toNat * 14) → ∀ (j : Nat) (v : Value), e.cs[j]? = some v → hat H pa j = some v := by
  have hk : k.toNat < es.length := by omega
  obtain ⟨ad, h2, h3, h4⟩ := hr k.toNat (es[k.toNat]).cs (by simp [hk])
  exact ⟨es[k.toNat], ad, by simp [hk], h2, fun pa hpa j v hv => by subst hpa; exact h4 j v hv⟩

/-- a log as a value: its slice's place, length and capacity beside its entries -/
structure LV where
  b : Int
  bt : Int
  j : Joint
  A : Option Addr
  n : Nat
  c : Nat
  es : List Entry
def LV.cs (l : LV) : List Value := logCs l.b l.bt l.j l.A l.n l.c
def LV.ok (H : Hp) (l : LV) : Prop := l.n = l.es.length ∧ l.n ≤ l.c ∧ Row H 14 l.A (l.es.map Entry.cs)
theorem LV.ok.mono {H H' : Hp} {l : LV} (h : l.ok H) (hle : Hp.le H H') : l.ok H' := ⟨h.1, h.2.1, h.2.2.mono hle⟩
def LV.lastW (l : LV) : Int := IntKind.i64.wrap (l.b + l.n)

def z0 : Value := .int .i64 0
def zu : Value := .int .u16 0
def zConfig : List Value := [zu, zu, zu, z0, z0]
def zJoint : List Value := zConfig ++ zConfig ++ [.bool false]
def zEntry : List Value := [z0, z0, .string ⟨#[]⟩] ++ zJoint
def zLog : List Value := [z0, z0] ++ zJoint ++ [.slice none 0 0]
def TE : Tb := [
  (3, ⟨4, 1, false, [z0], [], 0, 0, some .i64, none⟩),
  (4, ⟨5, 1, false, [.bool false], [], 0, 0, none, none⟩),
  (5, ⟨4, 1, false, [.int .u8 0], [], 0, 0, some .u8, none⟩),
  (9, ⟨3, 1, false, [.string ⟨#[]⟩], [], 0, 0, none, none⟩),
  (22, ⟨2, 1, false, [.slice none 0 0], [], 5, 0, none, none⟩),
  (27, ⟨0, 5, true, zConfig, [(0, 1, 25), (1, 1, 25), (2, 1, 25), (3, 1, 3), (4, 1, 3)], 0, 0, none, some [(0, 1), (1, 1), (2, 1), (3, 1), (4, 1)]⟩),
  (29, ⟨0, 11, true, zJoint, [(0, 5, 27), (5, 5, 27), (10, 1, 4)], 0, 0, none, some [(0, 1), (1, 1), (2, 1), (3, 1), (4, 1), (5, 1), (6, 1), (7, 1), (8, 1), (9, 1), (10, 0)]⟩),
  (30, ⟨2, 1, false, [.slice none 0 0], [], 47, 0, none, none⟩),
  (32, ⟨0, 14, true, zLog, [(0, 1, 3), (1, 1, 3), (2, 11, 29), (13, 1, 30)], 0, 0, none, none⟩),
  (34, ⟨4, 1, false, [z0], [], 0, 0, some .i64, none⟩),
  (47, ⟨0, 14, true, zEntry, [(0, 1, 3), (1, 1, 3), (2, 1, 9), (3, 11, 29)], 0, 0, none, some [(0, 1), (1, 1), (2, 2), (3, 1), (4, 1), (5, 1), (6, 1), (7, 1), (8, 1), (9, 1), (10, 1), (11, 1), (12, 1), (13, 0)]⟩),
  (123, ⟨2, 1, false, [.slice none 0 0], [], 3, 0, none, none⟩),
  (144, ⟨2, 1, false, [.slice none 0 0], [], 30, 0, none, none⟩)]
theorem TEok : TOk Try.prog TE := by unfold TOk; kernel_rfl

def fbody (f : Func) : Code := f.body.getD .skip
theorem Tm : Try.prog.follows .mixedOrders = true := by kernel_rfl
noncomputable def C30 : Code := fbody Try.f30
theorem C30b : Try.f30.body = some C30 := by kernel_rfl
theorem C30r : Try.f30.results.toList = [.cell 4 47, .tmp 5] := by kernel_rfl
def D30 : List (List Nat) := []
theorem D30ok : drOk C30 D30 = true := by kernel_rfl
noncomputable def E30 (O : Ops) (H : Hp) : Env := ⟨O, H, TE, C30, [.cell 4 47, .tmp 5], D30⟩

/-- At -/
def LV.at (l : LV) (i : Int) : Entry × Bool :=
  if i ≤ l.b then (.zero, false) else if 0 ≤ IntKind.i64.wrap (IntKind.i64.wrap (i - l.b) - 1) ∧ IntKind.i64.wrap (IntKind.i64.wrap (i - l.b) - 1) < l.n then ((l.es[(IntKind.i64.wrap (IntKind.i64.wrap (i - l.b) - 1)).toNat]?).getD .zero, true) else (.zero, false)

set_option maxRecDepth 100000 in
theorem At_pc (l : LV) (i : Int) (H : Hp) (hl : l.ok H) : PC Try.prog 30 [aggV l.cs, .int .i64 i] H fun _ v => v = .tuple #[aggV (l.at i).1.cs, .bool (l.at i).2] := by
  obtain ⟨b, bt, ⟨⟨a0, a1, a2, a3, a4⟩, ⟨b0, b1, b2, b3, b4⟩, two⟩, A, n, c, es⟩ := l
  obtain ⟨hn, hc, hr⟩ := hl
  simp only at hn hc hr
  refine PC.enter [aggT (LV.cs ⟨b, bt, ⟨⟨a0, a1, a2, a3, a4⟩, ⟨b0, b1, b2, b3, b4⟩, two⟩, A, n, c, es⟩), .c (.v (.int .i64 i))] Try.func30 C30b rfl 32 Try.ntmps30 (by simp) fun w hw => ?_
  refine ops_open fun oW oA oS oM oBa oBo oBx oBn oE oN oL oLe oAnd oOr oNot oBq oSq oMx oMn oC oSz oAd oIx oQu oRe oSl oSr hO => ?_
  refine run_sound (E := E30 ⟨oW, oA, oS, oM, oBa, oBo, oBx, oBn, oE, oN, oL, oLe, oAnd, oOr, oNot, oBq, oSq, oMx, oMn, oC, oSz, oAd, oIx, oQu, oRe, oSl, oSr⟩ H) TEok hO Tm D30ok (PanicOk.body _ _ _) (Hp.le_refl _) 4000 _ _ ?_
  conv => arg 5; cbv
  simp only [Res.ok]
  refine ⟨fun h1 => ?_, fun h1 => ⟨fun h2 => ?_, fun h2 => ?_⟩⟩
  · refine RetG.pc TEok C30r rfl rfl rfl (fun _ => rfl) ?_
    obtain ⟨rfl, rfl, rfl, rfl, rfl, rfl, rfl, rfl, rfl, rfl, rfl, rfl, rfl, rfl, rfl, rfl, rfl, rfl, rfl, rfl, rfl, rfl, rfl, rfl, rfl, rfl, rfl⟩ := Ops.mk.inj hO
    have h : i ≤ b := by simpa [Ops.std] using h1
    simp only [LV.at, if_pos h]
    rfl
  · have hk0 : 0 ≤ oS .i64 (oS .i64 i b) 1 ∧ oS .i64 (oS .i64 i b) 1 < n := by
      have := h2
      obtain ⟨rfl, rfl, rfl, rfl, rfl, rfl, rfl, rfl, rfl, rfl, rfl, rfl, rfl, rfl, rfl, rfl, rfl, rfl, rfl, rfl, rfl, rfl, rfl, rfl, rfl, rfl, rfl⟩ := Ops.mk.inj hO
      simpa [Ops.std] using this
    have hat0 : (LV.at ⟨b, bt, ⟨⟨a0, a1, a2, a3, a4⟩, ⟨b0, b1, b2, b3, b4⟩, two⟩, A, n, c, es⟩ i) = ((es[(oS .i64 (oS .i64 i b) 1).toNat]?).getD .zero, true) := by
      have h := h1
      obtain ⟨rfl, rfl, rfl, rfl, rfl, rfl, rfl, rfl, rfl, rfl, rfl, rfl, rfl, rfl, rfl, rfl, rfl, rfl, rfl, rfl, rfl, rfl, rfl, rfl, rfl, rfl, rfl⟩ := Ops.mk.inj hO
      have h : ¬ i ≤ b := by simpa [Ops.std] using h
      simp only [LV.at, if_neg h]
      rw [if_pos hk0]
    rw [hat0]
    generalize oS .i64 (oS .i64 i b) 1 = k at *
    obtain ⟨e, ad, he, rfl, hat⟩ := row_get hr hk0.1 (by omega)
    rw [he]
    refine ⟨hk0.1, hk0.2, ad, rfl, fun pa hpa => ⟨_, rfl, ?_⟩⟩
    have hc := hat pa hpa
    obtain ⟨t0, k0, d0, ⟨c0, c1, c2, c3, c4⟩, ⟨f0, f1, f2, f3, f4⟩, tw⟩ := e
    refine run_sound (E := E30 ⟨oW, oA, oS, oM, oBa, oBo, oBx, oBn, oE, oN, oL, oLe, oAnd, oOr, oNot, oBq, oSq, oMx, oMn, oC, oSz, oAd, oIx, oQu, oRe, oSl, oSr⟩ H) TEok hO Tm D30ok (PanicOk.body _ _ _) (Hp.le_refl _) 4000 _ _ ?_
    conv => arg 5; cbv
    simp only [Res.ok]
    refine ⟨_, rfl, hc, .inl ⟨rfl, _, rfl, ?_⟩⟩
    refine run_sound (E := E30 ⟨oW, oA, oS, oM, oBa, oBo, oBx, oBn, oE, oN, oL, oLe, oAnd, oOr, oNot, oBq, oSq, oMx, oMn, oC, oSz, oAd, oIx, oQu, oRe, oSl, oSr⟩ H) TEok hO Tm D30ok (PanicOk.body _ _ _) (Hp.le_refl _) 4000 _ _ ?_
    conv => arg 5; cbv
    simp only [Res.ok]
    refine RetG.pc TEok C30r rfl rfl rfl (fun _ => rfl) ?_
    rfl
  · refine RetG.pc TEok C30r rfl rfl rfl (fun _ => rfl) ?_
    obtain ⟨rfl, rfl, rfl, rfl, rfl, rfl, rfl, rfl, rfl, rfl, rfl, rfl, rfl, rfl, rfl, rfl, rfl, rfl, rfl, rfl, rfl, rfl, rfl, rfl, rfl, rfl, rfl⟩ := Ops.mk.inj hO
    have h : ¬ i ≤ b := by simpa [Ops.std] using h1
    have h3 : ¬ (0 ≤ IntKind.i64.wrap (IntKind.i64.wrap (i - b) - 1) ∧ IntKind.i64.wrap (IntKind.i64.wrap (i - b) - 1) < n) := by simpa [Ops.std] using h2
    simp only [LV.at, if_neg h, if_neg h3]
    rfl

/-- Last, of the program and of the reference -/
noncomputable def C15 : Code := fbody Try.f15
theorem C15b : Try.f15.body = some C15 := by kernel_rfl
theorem C15r : Try.f15.results.toList = [.tmp 2] := by kernel_rfl
def D15 : List (List Nat) := []
theorem D15ok : drOk C15 D15 = true := by kernel_rfl
noncomputable def E15 (O : Ops) (H : Hp) : Env := ⟨O, H, TE, C15, [.tmp 2], D15⟩
noncomputable def C35 : Code := fbody Try.f35
theorem C35b : Try.f35.body = some C35 := by kernel_rfl
theorem C35r : Try.f35.results.toList = [.tmp 2] := by kernel_rfl
def D35 : List (List Nat) := []
theorem D35ok : drOk C35 D35 = true := by kernel_rfl
noncomputable def E35 (O : Ops) (H : Hp) : Env := ⟨O, H, TE, C35, [.tmp 2], D35⟩
theorem Last_pc (l : LV) (H : Hp) : PC Try.prog 15 [aggV l.cs] H fun _ v => v = .int .i64 l.lastW := by
  obtain ⟨b, bt, ⟨⟨a0, a1, a2, a3, a4⟩, ⟨b0, b1, b2, b3, b4⟩, two⟩, A, n, c, es⟩ := l
  refine PC.enter [aggT (LV.cs ⟨b, bt, ⟨⟨a0, a1, a2, a3, a4⟩, ⟨b0, b1, b2, b3, b4⟩, two⟩, A, n, c, es⟩)] Try.func15 C15b rfl 9 Try.ntmps15 (by simp) fun w hw => ?_
  refine ops_open fun oW oA oS oM oBa oBo oBx oBn oE oN oL oLe oAnd oOr oNot oBq oSq oMx oMn oC oSz oAd oIx oQu oRe oSl oSr hO => ?_
  refine run_sound (E := E15 ⟨oW, oA, oS, oM, oBa, oBo, oBx, oBn, oE, oN, oL, oLe, oAnd, oOr, oNot, oBq, oSq, oMx, oMn, oC, oSz, oAd, oIx, oQu, oRe, oSl, oSr⟩ H) TEok hO Tm D15ok (PanicOk.body _ _ _) (Hp.le_refl _) 4000 _ _ ?_
  conv => arg 5; cbv
  simp only [Res.ok]
  refine RetG.pc TEok C15r rfl rfl rfl (fun _ => rfl) ?_
  obtain ⟨rfl, rfl, rfl, rfl, rfl, rfl, rfl, rfl, rfl, rfl, rfl, rfl, rfl, rfl, rfl, rfl, rfl, rfl, rfl, rfl, rfl, rfl, rfl, rfl, rfl, rfl, rfl⟩ := Ops.mk.inj hO
  rfl
theorem rLast_pc (l : LV) (H : Hp) : PC Try.prog 35 [aggV l.cs] H fun _ v => v = .int .i64 l.lastW := by
  obtain ⟨b, bt, ⟨⟨a0, a1, a2, a3, a4⟩, ⟨b0, b1, b2, b3, b4⟩, two⟩, A, n, c, es⟩ := l
  refine PC.enter [aggT (LV.cs ⟨b, bt, ⟨⟨a0, a1, a2, a3, a4⟩, ⟨b0, b1, b2, b3, b4⟩, two⟩, A, n, c, es⟩)] Try.func35 C35b rfl 9 Try.ntmps35 (by simp) fun w hw => ?_
  refine ops_open fun oW oA oS oM oBa oBo oBx oBn oE oN oL oLe oAnd oOr oNot oBq oSq oMx oMn oC oSz oAd oIx oQu oRe oSl oSr hO => ?_
  refine run_sound (E := E35 ⟨oW, oA, oS, oM, oBa, oBo, oBx, oBn, oE, oN, oL, oLe, oAnd, oOr, oNot, oBq, oSq, oMx, oMn, oC, oSz, oAd, oIx, oQu, oRe, oSl, oSr⟩ H) TEok hO Tm D35ok (PanicOk.body _ _ _) (Hp.le_refl _) 4000 _ _ ?_
  conv => arg 5; cbv
  simp only [Res.ok]
  refine RetG.pc TEok C35r rfl rfl rfl (fun _ => rfl) ?_
  obtain ⟨rfl, rfl, rfl, rfl, rfl, rfl, rfl, rfl, rfl, rfl, rfl, rfl, rfl, rfl, rfl, rfl, rfl, rfl, rfl, rfl, rfl, rfl, rfl, rfl, rfl, rfl, rfl⟩ := Ops.mk.inj hO
  rfl

/-- Term -/
def LV.term (l : LV) (i : Int) : Int × Bool := if i = l.b then (l.bt, true) else ((l.at i).1.term, (l.at i).2)
noncomputable def C17 : Code := fbody Try.f17
theorem C17b : Try.f17.body = some C17 := by kernel_rfl
theorem C17r : Try.f17.results.toList = [.tmp 4, .tmp 5] := by kernel_rfl
def D17 : List (List Nat) := []
theorem D17ok : drOk C17 D17 = true := by kernel_rfl
noncomputable def E17 (O : Ops) (H : Hp) : Env := ⟨O, H, TE, C17, [.tmp 4, .tmp 5], D17⟩
set_option maxRecDepth 100000 in
theorem Term_pc (l : LV) (i : Int) (H : Hp) (hl : l.ok H) : PC Try.prog 17 [aggV l.cs, .int .i64 i] H fun _ v => v = .tuple #[.int .i64 (l.term i).1, .bool (l.term i).2] := by
  have hA := At_pc l i H hl
  obtain ⟨b, bt, ⟨⟨a0, a1, a2, a3, a4⟩, ⟨b0, b1, b2, b3, b4⟩, two⟩, A, n, c, es⟩ := l
  obtain ⟨ea, he⟩ : ∃ x, LV.at ⟨b, bt, ⟨⟨a0, a1, a2, a3, a4⟩, ⟨b0, b1, b2, b3, b4⟩, two⟩, A, n, c, es⟩ i = x := ⟨_, rfl⟩
  simp only [LV.term, he] at hA ⊢
  obtain ⟨⟨t0, k0, d0, ⟨c0, c1, c2, c3, c4⟩, ⟨f0, f1, f2, f3, f4⟩, tw⟩, is⟩ := ea
  refine PC.enter [aggT (LV.cs ⟨b, bt, ⟨⟨a0, a1, a2, a3, a4⟩, ⟨b0, b1, b2, b3, b4⟩, two⟩, A, n, c, es⟩), .c (.v (.int .i64 i))] Try.func17 C17b rfl 22 Try.ntmps17 (by simp) fun w hw => ?_
  refine ops_open fun oW oA oS oM oBa oBo oBx oBn oE oN oL oLe oAnd oOr oNot oBq oSq oMx oMn oC oSz oAd oIx oQu oRe oSl oSr hO => ?_
  refine run_sound (E := E17 ⟨oW, oA, oS, oM, oBa, oBo, oBx, oBn, oE, oN, oL, oLe, oAnd, oOr, oNot, oBq, oSq, oMx, oMn, oC, oSz, oAd, oIx, oQu, oRe, oSl, oSr⟩ H) TEok hO Tm D17ok (PanicOk.body _ _ _) (Hp.le_refl _) 4000 _ _ ?_
  conv => arg 5; cbv
  simp only [Res.ok]
  refine ⟨fun h1 => ?_, fun h1 => ?_⟩
  · refine RetG.pc TEok C17r rfl rfl rfl (fun _ => rfl) ?_
    obtain ⟨rfl, rfl, rfl, rfl, rfl, rfl, rfl, rfl, rfl, rfl, rfl, rfl, rfl, rfl, rfl, rfl, rfl, rfl, rfl, rfl, rfl, rfl, rfl, rfl, rfl, rfl, rfl⟩ := Ops.mk.inj hO
    have h : i = b := by simpa [Ops.std] using h1
    simp only [if_pos h]
    rfl
  · refine EvG.pure Try.call30 (fun _ => rfl) hA ?_
    rintro H' v hle rfl
    refine ⟨.tup [.agg [.v (.int .i64 t0), .v (.int .i64 k0), .v (.string d0), .v (.int .u16 c0), .v (.int .u16 c1), .v (.int .u16 c2), .v (.int .i64 c3), .v (.int .i64 c4), .v (.int .u16 f0), .v (.int .u16 f1), .v (.int .u16 f2), .v (.int .i64 f3), .v (.int .i64 f4), .v (.bool tw)], .c (.v (.bool is))], _, fun _ => ⟨_, rfl, rfl⟩, rfl, ?_⟩
    refine run_sound (E := E17 ⟨oW, oA, oS, oM, oBa, oBo, oBx, oBn, oE, oN, oL, oLe, oAnd, oOr, oNot, oBq, oSq, oMx, oMn, oC, oSz, oAd, oIx, oQu, oRe, oSl, oSr⟩ H') TEok hO Tm D17ok (PanicOk.body _ _ _) (Hp.le_refl _) 4000 _ _ ?_
    conv => arg 5; cbv
    simp only [Res.ok]
    refine RetG.pc TEok C17r rfl rfl rfl (fun _ => rfl) ?_
    obtain ⟨rfl, rfl, rfl, rfl, rfl, rfl, rfl, rfl, rfl, rfl, rfl, rfl, rfl, rfl, rfl, rfl, rfl, rfl, rfl, rfl, rfl, rfl, rfl, rfl, rfl, rfl, rfl⟩ := Ops.mk.inj hO
    have h : ¬ i = b := by simpa [Ops.std] using h1
    simp only [if_neg h]
    rfl
end Go.Sx
