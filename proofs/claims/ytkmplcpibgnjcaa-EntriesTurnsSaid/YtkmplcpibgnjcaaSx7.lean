/- A symbolic executor over the model's wp, part 7: the world stays good; one operation of a region. -/
import Derived.Test.YtkmplcpibgnjcaaSx6
namespace Go.Sx
open Go.RowKit

theorem heap_setCells (b : Nat) : ∀ (vs : List Value) (o : Nat) (w : World), (∀ k, k ≠ b → (w.setCells b o vs).heap[k]? = w.heap[k]?) ∧ (w.setCells b o vs).heap.size = w.heap.size ∧
    (w.setCells b o vs).os = w.os ∧ (w.setCells b o vs).tape = w.tape ∧ (w.setCells b o vs).output = w.output
  | [], o, w => ⟨fun _ _ => rfl, rfl, rfl, rfl, rfl⟩
  | v :: vs, o, w => by
    obtain ⟨h1, h2, h3, h4, h5⟩ := heap_setCells b vs (o + 1) (w.setCell ⟨b, o, none⟩ v)
    refine ⟨fun k hk => ?_, ?_, h3, h4, h5⟩
    · rw [World.setCells, h1 k hk, Below.heap_setCell _ _ _ _ hk]
    · rw [World.setCells, h2, World.size_setCell]

theorem nodup_ne {l : List Nat} (h : l.Nodup) {i j x y : Nat} (hi : l[i]? = some x) (hj : l[j]? = some y) (hne : i ≠ j) : x ≠ y := by
  obtain ⟨h1, rfl⟩ := List.getElem?_eq_some_iff.1 hi
  obtain ⟨h2, rfl⟩ := List.getElem?_eq_some_iff.1 hj
  intro e
  exact hne ((List.getElem_inj h).1 e)

section
variable {G : Gh} {β : Bl} {bx : List (List CV)} {w : World} (g : Good G β bx w)
include g

theorem Good.lt {b o : Nat} {v : Value} (h : G.H b o = some v) : b < w.heap.size :=
  World.block_lt_of_cell? (a := ⟨b, o, none⟩) w (g.imm b o v h)

theorem good_alloc {cs : List CV} {vs : List Value} (t : TypeId) (hd : denL β cs = some vs) :
    Good G (β ++ [(w.heap.size, 0)]) (bx ++ [cs]) (w.alloc (.cells vs.toArray t)) := by
  have hb := g.bl
  refine ⟨g.os, g.tape, g.output, by simp; have := g.size; omega, fun b hb' hM => ?_, fun b o v h => ?_, g.le0, g.fresh, by simp [hb], ?_, fun q hq o => ?_, fun q hq => ?_, ?_, fun r hr => ?_, g.rinj, fun q hq => ?_⟩
  · rw [Below.heap_alloc _ _ _ (by have := g.size; omega)]; exact g.old b hb' hM
  · rw [World.cell?_alloc_lt _ _ _ (g.lt h)]; exact g.imm b o v h
  · intro k cs' q hk hq i c hc
    by_cases hlt : k < bx.length
    · rw [List.getElem?_append_left hlt] at hk
      rw [List.getElem?_append_left (by omega)] at hq
      obtain ⟨x, h1, h2, h3⟩ := g.bh k cs' q hk hq i c hc
      have hbl : q.1 < w.heap.size := (g.bxlt q (List.mem_of_getElem? hq)).1
      exact ⟨x, CV.den_mono h1, by rw [World.cell?_alloc_lt _ _ _ hbl]; exact h2, by rw [World.frozen?_alloc_old _ _ _ (Nat.ne_of_lt hbl)]; exact h3⟩
    · have hk0 : k = bx.length := by
        have := (List.getElem?_eq_some_iff.1 hk).1
        simp at this; omega
      subst hk0
      rw [List.getElem?_append_right (Nat.le_refl _)] at hk
      rw [← hb, List.getElem?_append_right (Nat.le_refl _)] at hq
      simp at hk hq
      subst hk; subst hq
      obtain ⟨x, hx, hg⟩ := denL_get hd i c hc
      exact ⟨x, CV.den_mono hx, by simpa using hg, by simp⟩
  · rcases List.mem_append.1 hq with h | h
    · exact g.bxH q h o
    · simp at h; subst h
      cases hh : G.H w.heap.size o with
      | none => rfl
      | some v => exact absurd (g.lt hh) (by omega)
  · rcases List.mem_append.1 hq with h | h
    · have := g.bxlt q h; simp; exact ⟨by omega, this.2⟩
    · simp at h; subst h; simp; exact .inl g.size
  · rw [List.map_append]
    refine List.nodup_append.2 ⟨g.inj, by simp, fun x hx y hy => ?_⟩
    simp at hy; subst hy
    simp only [List.mem_map] at hx
    obtain ⟨q, hq, rfl⟩ := hx
    have := (g.bxlt q hq).1
    omega
  · obtain ⟨h1, h2, h3, h4, h6, h7, cs', h5, h8⟩ := g.rows r hr
    refine ⟨h1, by simp; omega, h3, fun q hq => ?_, h6, h7, cs', by rw [Below.heap_alloc _ _ _ h2]; exact h5, h8⟩
    rcases List.mem_append.1 hq with h | h
    · exact h4 q h
    · simp at h; subst h; simp; omega
  · obtain ⟨r, hr, e1, e2⟩ := g.zs q hq
    exact ⟨r, hr, e1, fun cs hcs => e2 cs (by rw [Below.heap_alloc _ _ _ (g.rows r hr).2.1] at hcs; exact hcs)⟩

theorem good_store {k off : Nat} {cs old : List CV} {vs : List Value} {q : Nat × Nat} (hd : denL β cs = some vs) (hq : β[k]? = some q) (ho : bx[k]? = some old) (hl : off + cs.length ≤ old.length) :
    Good G β (bx.set k (spl old off cs)) (w.setCells q.1 (q.2 + off) vs) := by
  obtain ⟨h1, h2, h3, h4, h5⟩ := heap_setCells q.1 vs (q.2 + off) w
  have hqm := List.mem_of_getElem? hq
  have hlt := g.bxlt q hqm
  have hlen := denL_length hd
  have hkl : k < bx.length := (List.getElem?_eq_some_iff.1 ho).1
  obtain ⟨ov, hov, hoc⟩ := bx_den g.bh ho hq
  have holen := denL_length hov
  refine ⟨h3.trans g.os, h4.trans g.tape, h5.trans g.output, by rw [h2]; exact g.size, fun b hb hM => ?_, fun b o v h => ?_, g.le0, g.fresh, by simp [g.bl], ?_, g.bxH, fun q' hq' => by rw [h2]; exact g.bxlt q' hq', g.inj, fun r hr => ?_, g.rinj, fun z hz => ?_⟩
  · rw [h1 b (fun e => ?_)]
    · exact g.old b hb hM
    · subst e; rcases hlt.2 with h | h
      · omega
      · exact hM h
  · have hne : b ≠ q.1 := fun e => by
      subst e
      have := g.bxH q hqm o
      rw [h] at this
      cases this
    rw [World.cell?_of_block (w := w) (a := ⟨b, o, none⟩) (h1 b hne)]
    exact g.imm b o v h
  · intro k' cs' q' hk' hq' i c hc
    by_cases hkk : k' = k
    · subst hkk
      rw [hq] at hq'; cases hq'
      rw [List.getElem?_set_self hkl] at hk'
      cases hk'
      have hds := denL_spl (off := off) hov hd
      obtain ⟨x, hx, hg⟩ := denL_get hds i c hc
      refine ⟨x, hx, ?_, ?_⟩
      · by_cases hin : off ≤ i ∧ i < off + vs.length
        · have := World.cell?_setCells_in q.1 vs (q.2 + off) w (fun j hj => by
            have hj' : ov[off + j]? = some (ov[off + j]'(by omega)) := List.getElem?_eq_getElem (by omega)
            rw [Nat.add_assoc, (hoc _ _ hj').1]; rfl) (i - off) (by omega)
          rw [show q.2 + off + (i - off) = q.2 + i by omega] at this
          rw [this]
          have e : (spl ov off vs)[i]? = some (vs[i - off]'(by omega)) := by
            unfold spl
            rw [List.getElem?_append_left (by simp; omega), List.getElem?_append_right (by simp; omega)]
            simp only [List.length_take]
            rw [show i - min off ov.length = i - off by omega, List.getElem?_eq_getElem (by omega)]
          rw [e] at hg
          exact hg
        · rw [World.cell?_setCells_out q.1 vs (q.2 + off) w _ (fun _ _ => by simp; omega)]
          refine (hoc i x ?_).1
          unfold spl at hg
          by_cases h6 : i < off
          · rw [List.append_assoc, List.getElem?_append_left (by simp; omega)] at hg
            rw [List.getElem?_take] at hg
            simpa [h6] using hg
          · rw [List.getElem?_append_right (by simp; omega)] at hg
            simp only [List.length_append, List.length_take, List.getElem?_drop] at hg
            rw [show off + vs.length + (i - (min off ov.length + vs.length)) = i by omega] at hg
            exact hg
      · rw [World.frozen?_setCells]
        have hi : i < old.length := by
          have := (List.getElem?_eq_some_iff.1 hc).1
          unfold spl at this
          simp at this
          omega
        have hi' : ov[i]? = some (ov[i]'(by omega)) := List.getElem?_eq_getElem (by omega)
        exact (hoc i _ hi').2
    · rw [List.getElem?_set_ne (Ne.symm hkk)] at hk'
      obtain ⟨x, e1, e2, e3⟩ := g.bh k' cs' q' hk' hq' i c hc
      have hne : q'.1 ≠ q.1 := nodup_ne g.inj (i := k') (j := k) (by simp [hq']) (by simp [hq]) hkk
      refine ⟨x, e1, ?_, by rw [World.frozen?_setCells]; exact e3⟩
      rw [World.cell?_of_block (w := w) (h1 _ hne)]
      exact e2
  · obtain ⟨r1, r2, r3, r4, r6, r7, cs', r5, r8⟩ := g.rows r hr
    exact ⟨r1, by rw [h2]; exact r2, r3, r4, r6, r7, cs', by rw [h1 _ (fun e => r4 q hqm e.symm)]; exact r5, r8⟩
  · obtain ⟨r, hr, e1, e2⟩ := g.zs z hz
    exact ⟨r, hr, e1, fun cs hcs => e2 cs (by rw [h1 _ (fun e => (g.rows r hr).2.2.2.1 q hqm e.symm)] at hcs; exact hcs)⟩
end

/-! ### What becomes of the state -/
def St.put (st : St) (d : Option Nat) (av : AV) : Option St :=
  match d with
  | none => some st
  | some d => if d < st.n ∧ st.g.all (fun q => q.1 != d && q.2.1 != d) then some { st with t := (d, av) :: st.t } else none
def St.app (st : St) (d : Option Nat) : XR → Option St
  | .val av => st.put d av
  | .box cs => ({ st with bx := st.bx ++ [cs] } : St).put d (.t (.c (.p st.bx.length 0)))
  | .row _ _ => none
  | .st k off cs => match d, st.bx[k]? with
    | none, some old => some { st with bx := st.bx.set k (spl old off cs) }
    | _, _ => none

inductive SR where
  | ok (st : St)
  | br (t : Tmp) (b : Bool)
  | no

def xdo (O : Ops) (T : Tb) (st : St) (g : Option (Nat × Bool)) (o : Oper) : SR :=
  match xstep O T st g o.op with
  | some r => match st.app o.dst r with
    | some st' => .ok st'
    | none => .no
  | none => .no

/-- under whose guard was a temporary given its value? -/
def gsrc (d : Nat) : List (Nat × Nat × Bool × TV) → Option Nat
  | [] => none
  | p :: l => if p.1 = d then some p.2.1 else gsrc d l
def xoper (O : Ops) (T : Tb) (ops : Array Oper) (o : Oper) (st : St) : SR :=
  match o.guard with
  | none => xdo O T st none o
  | some (j, want) => match (ops[j]?).bind (·.dst) with
    | none => .no
    | some gt => match st.t.lookup gt with
      | some (.kb b) => if b = want then xdo O T st (some (gt, want)) o else match st.put o.dst (.t (.c (.v undef))) with
        | some st' => .ok st'
        | none => .no
      | some (.t (.c (.v (.bool b)))) => match xstep O T st (some (gt, want)) o.op, o.dst with
        | some (.val av), some d => match av.tv with
          | some x => if d < st.n ∧ (st.t.lookup d).isNone ∧ d ≠ gt ∧ st.g.all (fun q => q.1 != d && q.2.1 != d) then .ok { st with g := (d, gt, want, x) :: st.g } else .br gt b
          | none => .br gt b
        | _, _ => .br gt b
      | some (.t (.c (.v (.tuple _)))) => match st.put o.dst (.t (.c (.v undef))) with
        | some st' => .ok st'
        | none => .no
      | none => match gsrc gt st.g with
        | some gt' => match st.t.lookup gt' with
          | some (.t (.c (.v (.bool b)))) => .br gt' b
          | _ => .no
        | none => .no
      | _ => .no

theorem getD_set_self {a : Array Value} {d : Nat} {v : Value} (h : d < a.size) : (a.setIfInBounds d v).getD d undef = v := by
  simp [Array.getD_eq_getD_getElem?, h]
theorem getD_set_ne' {a : Array Value} {d e : Nat} {v : Value} (h : d ≠ e) : (a.setIfInBounds d v).getD e undef = a.getD e undef := by
  simp [Array.getD_eq_getD_getElem?, h]

theorem Rel.put {β : Bl} {st st' : St} {a : Act} {d : Option Nat} {av : AV} {v : Value} (r : Rel β st a) (h : st.put d av = some st') (hv : av.is β v) : Rel β st' (a.put d v) ∧ st'.bx = st.bx := by
  cases d with
  | none => simp [St.put] at h; subst h; exact ⟨r, rfl⟩
  | some d =>
    simp only [St.put] at h
    split at h
    case isFalse => cases h
    rename_i hc
    obtain ⟨hd, hg⟩ := hc
    cases h
    have hs : d < a.tmps.size := by rw [r.size]; exact hd
    refine ⟨⟨by simp [Act.put, r.size], fun e w he => ?_, fun p hp hc => ?_, r.df, fun p hp hc => ?_⟩, rfl⟩
    · simp only [List.lookup] at he
      split at he
      · rename_i heq
        simp at heq he
        subst heq; subst he
        exact ⟨hd, by simp only [Act.put]; rw [getD_set_self hs]; exact hv⟩
      · rename_i hne
        simp at hne
        obtain ⟨h1, h2⟩ := r.tm e w he
        exact ⟨h1, by simp only [Act.put]; rw [getD_set_ne' (Ne.symm hne)]; exact h2⟩
    · have hgp := List.all_eq_true.1 hg p hp
      simp at hgp
      simp only [Act.put] at hc ⊢
      rw [getD_set_ne' (Ne.symm hgp.2)] at hc
      rw [getD_set_ne' (Ne.symm hgp.1)]
      exact r.gd p hp hc
    · have hgp := List.all_eq_true.1 hg p hp
      simp at hgp
      simp only [Act.put] at hc ⊢
      rw [getD_set_ne' (Ne.symm hgp.2)] at hc
      rw [getD_set_ne' (Ne.symm hgp.1)]
      exact r.gu p hp hc

theorem Rel.mono {β l : Bl} {st : St} {a : Act} (r : Rel β st a) : Rel (β ++ l) st a :=
  ⟨r.size, fun d av h => ⟨(r.tm d av h).1, AV.is_mono (r.tm d av h).2⟩, fun p hp hc => TV.den_mono (r.gd p hp hc), r.df, r.gu⟩
theorem Rel.bx {β : Bl} {st : St} {a : Act} (r : Rel β st a) (bx : List (List CV)) : Rel β { st with bx := bx } a := ⟨r.size, r.tm, r.gd, r.df, r.gu⟩

section
variable {P : Program} {T : Tb} (hT : TOk P T) {G : Gh}

include hT in
/-- one operation that is carried out -/
theorem xdo_ok {β : Bl} {st st' : St} {a : Act} {w : World} (r : Rel β st a) (g : Good G β st.bx w) {gd : Option (Nat × Bool)} (hg : GdOk gd a) {o : Oper} (h : xdo Ops.std T st gd o = .ok st')
    {K : Act → World → Prop} {Q : Exit → Act → World → Prop} (hK : ∀ l a' w', Rel (β ++ l) st' a' → Good G (β ++ l) st'.bx w' → K a' w') : o.wp P a w K Q := by
  unfold xdo at h
  split at h
  case h_2 => cases h
  rename_i res hres
  split at h
  case h_2 => cases h
  rename_i st1 happ
  cases h
  have hok := xstep_ok (P := P) hT r g.bh g.bl hg hres
  have hn : β ++ [] = β := List.append_nil β
  cases res with
  | val av =>
    obtain ⟨v, hv, hrun⟩ := hok
    obtain ⟨r1, hb⟩ := r.put happ hv
    simp only [Oper.wp, hrun w g.bh, Oper.upon]
    exact hK [] _ _ (by rw [hn]; exact r1) (by rw [hn, hb]; exact g)
  | box cs =>
    obtain ⟨vs, t, hd, hrun⟩ := hok
    have g1 := good_alloc g t hd
    have hq : (β ++ [(w.heap.size, 0)])[st.bx.length]? = some (w.heap.size, 0) := by rw [← g.bl]; simp
    obtain ⟨r1, hb⟩ := Rel.put (v := .pointer (some ⟨w.heap.size, 0, none⟩)) ((r.mono (l := [(w.heap.size, 0)])).bx (st.bx ++ [cs])) happ (by simp [AV.is, TV.den, CV.den, adr, hq])
    simp only [Oper.wp, hrun w, Oper.upon]
    exact hK _ _ _ r1 (by rw [hb]; exact g1)
  | row cs len => cases happ
  | st k off cs =>
    obtain ⟨vs, q, old, hd, hq, ho, hl, hrun⟩ := hok
    simp only [St.app] at happ
    split at happ
    case h_2 => cases happ
    rename_i old' hdst hold'
    rw [ho] at hold'; cases hold'
    cases happ
    simp only [Oper.wp, hrun w g.bh, Oper.upon, hdst, Act.put]
    exact hK [] _ _ (by rw [hn]; exact r.bx _) (by rw [hn]; exact good_store g hd hq ho hl)

theorem getD_bool {a : Array Value} {d : Nat} {b : Bool} (h : a.getD d undef = .bool b) : a[d]? = some (.bool b) := by
  rw [Array.getD_eq_getD_getElem?] at h
  cases hh : a[d]? with
  | none => rw [hh] at h; simp [undef] at h
  | some v => rw [hh] at h; simp at h; rw [h]

theorem yielded_tuple {ops : Array Oper} {tmps : Array Value} {j : Nat} {gt : Tmp} {u : Array Value} (hgt : (ops[j]?).bind (·.dst) = some gt) (hb : tmps.getD gt undef = .tuple u) : yielded ops tmps j = none := by
  unfold yielded
  simp only [hgt, Option.bind_some]
  rw [Array.getD_eq_getD_getElem?] at hb
  cases hh : tmps[gt]? with
  | none => rfl
  | some v => rw [hh] at hb; simp at hb; rw [hb]

include hT in
theorem xoper_ok {β : Bl} {st st' : St} {a : Act} {w : World} (r : Rel β st a) (g : Good G β st.bx w) {ops : Array Oper} {i : Nat} {o : Oper} (hi : ops[i]? = some o) (h : xoper Ops.std T ops o st = .ok st')
    {K : Act → World → Prop} {Q : Exit → Act → World → Prop} (hK : ∀ l a' w', Rel (β ++ l) st' a' → Good G (β ++ l) st'.bx w' → K a' w') : wpOp P ops Q i K a w := by
  have hn : β ++ [] = β := List.append_nil β
  unfold wpOp
  simp only [hi]
  unfold xoper at h
  split at h
  · rename_i hgd
    have hw : Region.wanted o (yielded ops a.tmps) = true := by simp [Region.wanted, hgd]
    simp only [hw, if_true]
    exact .inl (xdo_ok hT r g (fun _ _ e => by cases e) h hK)
  · rename_i j want hgd
    split at h
    case h_1 => cases h
    rename_i gt hgt
    have hy : ∀ b, a.tmps.getD gt undef = .bool b → yielded ops a.tmps j = some b := fun b hb => by
      unfold yielded
      simp only [hgt, Option.bind_some, getD_bool hb]
    split at h
    · rename_i b hl
      have hb : a.tmps.getD gt undef = .bool b := (r.tm gt _ hl).2
      split at h
      · rename_i hbw
        subst hbw
        have hw : Region.wanted o (yielded ops a.tmps) = true := by simp [Region.wanted, hgd, hy b hb]
        simp only [hw, if_true]
        exact .inl (xdo_ok hT r g (fun _ _ e => by cases e; exact hb) h hK)
      · rename_i hbw
        have hw : Region.wanted o (yielded ops a.tmps) = false := by simp [Region.wanted, hgd, hy b hb, hbw]
        simp only [hw, Bool.false_eq_true, if_false]
        split at h
        case h_2 => cases h
        rename_i st1 hp
        cases h
        obtain ⟨r1, hbx⟩ := r.put (v := undef) hp rfl
        exact hK [] _ _ (by rw [hn]; exact r1) (by rw [hn, hbx]; exact g)
    · rename_i b hl
      have hb : a.tmps.getD gt undef = .bool b := by
        have := (r.tm gt _ hl).2
        simp only [AV.is, TV.den, CV.den, Option.some.injEq] at this
        exact this.symm
      split at h
      case h_2 => cases h
      rename_i av d hst hdst
      split at h
      case h_2 => cases h
      rename_i x hx
      split at h
      case isFalse => cases h
      rename_i hc
      obtain ⟨hd, hnone, hdg, hall⟩ := hc
      cases h
      have hds : d < a.tmps.size := by rw [r.size]; exact hd
      -- whatever is put into d: nothing else is known of it, and the new entry speaks under its guard alone
      have key : ∀ v, (b = want → x.den β = some v) → (b = !want → v = undef) → Rel β { st with g := (d, gt, want, x) :: st.g } (a.put (some d) v) := by
        intro v hv hu
        refine ⟨by simp [Act.put, r.size], fun e av' he => ?_, fun p hp hc => ?_, r.df, fun p hp hc => ?_⟩
        · obtain ⟨h1, h2⟩ := r.tm e av' he
          have hne : d ≠ e := fun e' => by subst e'; simp only at he; rw [he] at hnone; cases hnone
          exact ⟨h1, by simp only [Act.put]; rw [getD_set_ne' hne]; exact h2⟩
        · simp only [Act.put] at hc ⊢
          rcases List.mem_cons.1 hp with e | hp
          · subst e
            simp only at hc ⊢
            rw [getD_set_ne' hdg, hb] at hc
            rw [getD_set_self hds]
            exact hv (by simpa using hc)
          · have hgp := List.all_eq_true.1 hall p hp
            simp at hgp
            rw [getD_set_ne' (Ne.symm hgp.2)] at hc
            rw [getD_set_ne' (Ne.symm hgp.1)]
            exact r.gd p hp hc
        · simp only [Act.put] at hc ⊢
          rcases List.mem_cons.1 hp with e | hp
          · subst e
            simp only at hc ⊢
            rw [getD_set_ne' hdg, hb] at hc
            rw [getD_set_self hds]
            exact hu (by simpa using hc)
          · have hgp := List.all_eq_true.1 hall p hp
            simp at hgp
            rw [getD_set_ne' (Ne.symm hgp.2)] at hc
            rw [getD_set_ne' (Ne.symm hgp.1)]
            exact r.gu p hp hc
      by_cases hbw : b = want
      · subst hbw
        have hw : Region.wanted o (yielded ops a.tmps) = true := by simp [Region.wanted, hgd, hy b hb]
        simp only [hw, if_true]
        obtain ⟨v, hv, hrun⟩ := xstep_ok (P := P) hT r g.bh g.bl (g := some (gt, b)) (fun _ _ e => by cases e; exact hb) hst
        refine .inl ?_
        simp only [Oper.wp, hrun w g.bh, Oper.upon, hdst]
        exact hK [] _ _ (by rw [hn]; exact key v (fun _ => AV.tv_den hx hv) (fun e => by cases b <;> cases e)) (by rw [hn]; exact g)
      · have hw : Region.wanted o (yielded ops a.tmps) = false := by simp [Region.wanted, hgd, hy b hb, hbw]
        simp only [hw, Bool.false_eq_true, if_false, hdst]
        exact hK [] _ _ (by rw [hn]; exact key undef (fun e => absurd e hbw) (fun _ => rfl)) (by rw [hn]; exact g)
    · rename_i u hl
      have hb : a.tmps.getD gt undef = .tuple u := by
        have := (r.tm gt _ hl).2
        simp only [AV.is, TV.den, CV.den, Option.some.injEq] at this
        exact this.symm
      have hw : Region.wanted o (yielded ops a.tmps) = false := by simp [Region.wanted, hgd, yielded_tuple hgt hb]
      simp only [hw, Bool.false_eq_true, if_false]
      split at h
      case h_2 => cases h
      rename_i st1 hp
      cases h
      obtain ⟨r1, hbx⟩ := r.put (v := undef) hp rfl
      exact hK [] _ _ (by rw [hn]; exact r1) (by rw [hn, hbx]; exact g)
    · split at h
      · split at h <;> cases h
      · cases h
    · cases h
end
end Go.Sx
