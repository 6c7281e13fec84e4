/- From arguments that can be read to logs and entries. -/
import Derived.Test.YtkmplcpibgnjcaaL1
import Derived.Test.YtkmplcpibgnjcaaE12
import Derived.WalkKit
import Derived.OpenShut
namespace Go.Sx
open Go.Proofs Go.RowKit

def U16 (n : Int) : Prop := 0 ≤ n ∧ n ≤ 65535
structure Config.wf (c : Config) : Prop where
  voters : U16 c.voters
  witnesses : U16 c.witnesses
  learners : U16 c.learners
  elect : In64 c.elect
  commit : In64 c.commit
structure Joint.wf (j : Joint) : Prop where
  old : j.old.wf
  new : j.new.wf
structure Entry.wf (e : Entry) : Prop where
  term : In64 e.term
  kind : In64 e.kind
  conf : e.conf.wf
theorem wf64 {n : Int} (h : (Lit.int .i64 n).wf = true) : In64 n := by
  simp [Lit.wf, IntKind.min, IntKind.max, IntKind.bits, IntKind.signed] at h
  exact h
theorem wf16 {n : Int} (h : (Lit.int .u16 n).wf = true) : U16 n := by
  simp [Lit.wf, IntKind.min, IntKind.max, IntKind.bits, IntKind.signed] at h
  exact h

section
variable {H : Type} {enc : TypeId × Value → H} {w : World} {base : Nat} {spare : Nat → Bool} {held : Bool}
theorem trod_at {P : Program} {t : TypeId} {fuel : Nat} {cs : List Value} {x : DataW H × List MemPlace} {fs : Array Field} (ht : P.underlying t = some (.struct fs)) (h : DataW.trod enc P w base spare held fuel t cs = some x) {i T off : Nat} (hf : ∃ f, fs[i]? = some f ∧ f.type = T ∧ f.offset = off) :
    ∃ n y, DataW.trod enc P w base spare held n T ((cs.drop off).take (P.cellsOf T)) = some y := by
  obtain ⟨f, hf, rfl, rfl⟩ := hf
  obtain ⟨xs, n, rfl, rfl, hl, hx, he⟩ := DataW.trod_struct ht h
  have hi : i < fs.size := (Array.getElem?_eq_some_iff.1 hf).1
  refine ⟨n, xs[i]'(by omega), ?_⟩
  rw [he i f hf, List.getElem?_eq_getElem (by omega)]
theorem trod_len {P : Program} {t : TypeId} {fuel : Nat} {cs : List Value} {x : DataW H × List MemPlace} {fs : Array Field} (ht : P.underlying t = some (.struct fs)) (h : DataW.trod enc P w base spare held fuel t cs = some x) : cs.length = P.cellsOf t := by
  obtain ⟨xs, n, rfl, rfl, hl, hx, he⟩ := DataW.trod_struct ht h
  exact hl
theorem trod_i {P : Program} {t : TypeId} {k : IntKind} {n off : Nat} {cs : List Value} {y : DataW H × List MemPlace} (ht : P.underlying t = some (.int k)) (hc : P.cellsOf t = 1) (h : DataW.trod enc P w base spare held n t ((cs.drop off).take (P.cellsOf t)) = some y) :
    ∃ m, cs[off]? = some (.int k m) ∧ (Lit.int k m).wf = true := by
  obtain ⟨m, h1, _, h2⟩ := DataW.trod_int ht h
  refine ⟨m, ?_, h2⟩
  rw [hc] at h1
  have := congrArg (fun l => l[0]?) h1
  simpa using this
theorem trod_b {P : Program} {t : TypeId} {n off : Nat} {cs : List Value} {y : DataW H × List MemPlace} (ht : P.underlying t = some .bool) (hc : P.cellsOf t = 1) (h : DataW.trod enc P w base spare held n t ((cs.drop off).take (P.cellsOf t)) = some y) :
    ∃ m, cs[off]? = some (.bool m) := by
  obtain ⟨m, h1, _⟩ := DataW.trod_bool ht h
  refine ⟨m, ?_⟩
  rw [hc] at h1
  have := congrArg (fun l => l[0]?) h1
  simpa using this
theorem trod_s {P : Program} {t : TypeId} {n off : Nat} {cs : List Value} {y : DataW H × List MemPlace} (ht : P.underlying t = some .string) (hc : P.cellsOf t = 1) (h : DataW.trod enc P w base spare held n t ((cs.drop off).take (P.cellsOf t)) = some y) :
    ∃ m, cs[off]? = some (.string m) := by
  obtain ⟨m, h1, _⟩ := DataW.trod_string ht h
  refine ⟨m, ?_⟩
  rw [hc] at h1
  have := congrArg (fun l => l[0]?) h1
  simpa using this

set_option maxRecDepth 100000 in
theorem open_config {n : Nat} {cs : List Value} {x : DataW H × List MemPlace} (h : DataW.trod enc Try.prog w base spare held n 27 cs = some x) : ∃ c : Config, cs = c.cs ∧ c.wf := by
  have hl := trod_len Try.underlying27 h
  rw [show Try.prog.cellsOf 27 = 5 by kernel_rfl] at hl
  obtain ⟨_, _, t0⟩ := trod_at Try.underlying27 h (i := 0) (T := 25) (off := 0) ⟨_, rfl, rfl, rfl⟩
  obtain ⟨_, _, t1⟩ := trod_at Try.underlying27 h (i := 1) (T := 25) (off := 1) ⟨_, rfl, rfl, rfl⟩
  obtain ⟨_, _, t2⟩ := trod_at Try.underlying27 h (i := 2) (T := 25) (off := 2) ⟨_, rfl, rfl, rfl⟩
  obtain ⟨_, _, t3⟩ := trod_at Try.underlying27 h (i := 3) (T := 3) (off := 3) ⟨_, rfl, rfl, rfl⟩
  obtain ⟨_, _, t4⟩ := trod_at Try.underlying27 h (i := 4) (T := 3) (off := 4) ⟨_, rfl, rfl, rfl⟩
  obtain ⟨a0, h0, w0⟩ := trod_i Try.underlying25 (by kernel_rfl) t0
  obtain ⟨a1, h1, w1⟩ := trod_i Try.underlying25 (by kernel_rfl) t1
  obtain ⟨a2, h2, w2⟩ := trod_i Try.underlying25 (by kernel_rfl) t2
  obtain ⟨a3, h3, w3⟩ := trod_i Try.underlying3 (by kernel_rfl) t3
  obtain ⟨a4, h4, w4⟩ := trod_i Try.underlying3 (by kernel_rfl) t4
  match cs, hl with
  | [u0, u1, u2, u3, u4], _ =>
    simp at h0 h1 h2 h3 h4
    subst h0 h1 h2 h3 h4
    exact ⟨⟨a0, a1, a2, a3, a4⟩, rfl, wf16 w0, wf16 w1, wf16 w2, wf64 w3, wf64 w4⟩
set_option maxRecDepth 100000 in
theorem open_joint {n : Nat} {cs : List Value} {x : DataW H × List MemPlace} (h : DataW.trod enc Try.prog w base spare held n 29 cs = some x) : ∃ c : Joint, cs = c.cs ∧ c.wf := by
  have hl := trod_len Try.underlying29 h
  rw [show Try.prog.cellsOf 29 = 11 by kernel_rfl] at hl
  obtain ⟨_, _, t0⟩ := trod_at Try.underlying29 h (i := 0) (T := 27) (off := 0) ⟨_, rfl, rfl, rfl⟩
  obtain ⟨_, _, t1⟩ := trod_at Try.underlying29 h (i := 1) (T := 27) (off := 5) ⟨_, rfl, rfl, rfl⟩
  obtain ⟨_, _, t2⟩ := trod_at Try.underlying29 h (i := 2) (T := 4) (off := 10) ⟨_, rfl, rfl, rfl⟩
  obtain ⟨c0, h0, w0⟩ := open_config t0
  obtain ⟨c1, h1, w1⟩ := open_config t1
  obtain ⟨b, h2⟩ := trod_b Try.underlying4 (by kernel_rfl) t2
  rw [show Try.prog.cellsOf 27 = 5 by kernel_rfl] at h0 h1
  refine ⟨⟨c0, c1, b⟩, ?_, w0, w1⟩
  match cs, hl with
  | [u0, u1, u2, u3, u4, u5, u6, u7, u8, u9, u10], _ =>
    simp at h0 h1 h2
    subst h2
    have : ([u0, u1, u2, u3, u4] ++ [u5, u6, u7, u8, u9] ++ [.bool b] : List Value) = c0.cs ++ c1.cs ++ [.bool b] := by rw [h0, h1]
    simpa [Joint.cs] using this
set_option maxRecDepth 100000 in
theorem open_entry {n : Nat} {cs : List Value} {x : DataW H × List MemPlace} (h : DataW.trod enc Try.prog w base spare held n 47 cs = some x) : ∃ c : Entry, cs = c.cs ∧ c.wf := by
  have hl := trod_len Try.underlying47 h
  rw [show Try.prog.cellsOf 47 = 14 by kernel_rfl] at hl
  obtain ⟨_, _, t0⟩ := trod_at Try.underlying47 h (i := 0) (T := 3) (off := 0) ⟨_, rfl, rfl, rfl⟩
  obtain ⟨_, _, t1⟩ := trod_at Try.underlying47 h (i := 1) (T := 3) (off := 1) ⟨_, rfl, rfl, rfl⟩
  obtain ⟨_, _, t2⟩ := trod_at Try.underlying47 h (i := 2) (T := 9) (off := 2) ⟨_, rfl, rfl, rfl⟩
  obtain ⟨_, _, t3⟩ := trod_at Try.underlying47 h (i := 3) (T := 29) (off := 3) ⟨_, rfl, rfl, rfl⟩
  obtain ⟨a0, h0, w0⟩ := trod_i Try.underlying3 (by kernel_rfl) t0
  obtain ⟨a1, h1, w1⟩ := trod_i Try.underlying3 (by kernel_rfl) t1
  obtain ⟨a2, h2⟩ := trod_s Try.underlying9 (by kernel_rfl) t2
  obtain ⟨j, h3, w3⟩ := open_joint t3
  rw [show Try.prog.cellsOf 29 = 11 by kernel_rfl] at h3
  refine ⟨⟨a0, a1, a2, j⟩, ?_, wf64 w0, wf64 w1, w3⟩
  match cs, hl with
  | u0 :: u1 :: u2 :: r, hl =>
    simp at h0 h1 h2
    subst h0 h1 h2
    simp only [List.drop_succ_cons, List.drop_zero] at h3
    rw [List.take_of_length_le (by simp at hl; omega)] at h3
    rw [h3]
    rfl
theorem open_entries {n : Nat} {A : Option Addr} {len cap : Nat} {x : DataW H × List MemPlace} (h : DataW.trod enc Try.prog w base spare held n 30 [.slice A len cap] = some x) : ∃ es : List Entry, SVok (cellsH w) A len cap es ∧ ∀ e ∈ es, e.wf := by
  rcases DataW.trod_slice Try.underlying30 h with ⟨h0, _⟩ | ⟨a, l, c, elems, rest, m, _, h0, _, _, hlc, hcm, hel, hat, _, _⟩
  · simp at h0
    obtain ⟨rfl, rfl, rfl⟩ := h0
    exact ⟨[], SVok.nil, fun e he => by cases he⟩
  · simp at h0
    obtain ⟨rfl, rfl, rfl⟩ := h0
    have each : ∀ i : Fin len, ∃ e : Entry, e.wf ∧ ∀ (j : Nat) (v : Value), e.cs[j]? = some v → w.cell? ((a.add (i.1 * 14)).add j) = some v := by
      rintro ⟨i, hi⟩
      have h1 := hat i hi
      rw [List.getElem?_eq_getElem (by omega), Option.bind_eq_some_iff] at h1
      obtain ⟨cs, h2, h3⟩ := h1
      obtain ⟨e, rfl, hw⟩ := open_entry h3
      rw [show Try.prog.cellsOf 47 = 14 by kernel_rfl] at h2
      obtain ⟨_, _, h4⟩ := World.cells?_some h2
      refine ⟨e, hw, fun j v hv => ?_⟩
      have hj : j < 14 := by have := (List.getElem?_eq_some_iff.1 hv).1; simpa [Entry.len] using this
      rw [h4 j hj, hv]
    refine ⟨List.ofFn fun i => Classical.choose (each i), ⟨by simp, hlc, fun i x hx => ?_⟩, fun e he => ?_⟩
    · simp only [List.getElem?_map, Option.map_eq_some_iff] at hx
      obtain ⟨e, he, rfl⟩ := hx
      obtain ⟨hi, he⟩ := List.getElem?_eq_some_iff.1 he
      simp only [List.length_ofFn] at hi
      rw [List.getElem_ofFn] at he
      have hs := (Classical.choose_spec (each ⟨i, hi⟩)).2
      rw [he] at hs
      refine ⟨a, rfl, Entry.len e, fun j v hv => ?_⟩
      have h0 := hs 0 _ rfl
      have hsp := cell_spot (a := a.add (i * 14)) (by simpa [Addr.add] using h0)
      exact cell_hat hsp (hs j v hv)
    · obtain ⟨i, rfl⟩ := List.mem_ofFn.1 he
      exact (Classical.choose_spec (each i)).1
structure LV.wf (l : LV) : Prop where
  b : In64 l.b
  bt : In64 l.bt
  j : l.j.wf
  es : ∀ e ∈ l.es, e.wf
set_option maxRecDepth 100000 in
theorem open_log {n : Nat} {cs : List Value} {x : DataW H × List MemPlace} (h : DataW.trod enc Try.prog w base spare held n 32 cs = some x) : ∃ l : LV, cs = l.cs ∧ l.ok (cellsH w) ∧ l.wf := by
  have hl := trod_len Try.underlying32 h
  rw [show Try.prog.cellsOf 32 = 14 by kernel_rfl] at hl
  obtain ⟨_, _, t0⟩ := trod_at Try.underlying32 h (i := 0) (T := 3) (off := 0) ⟨_, rfl, rfl, rfl⟩
  obtain ⟨_, _, t1⟩ := trod_at Try.underlying32 h (i := 1) (T := 3) (off := 1) ⟨_, rfl, rfl, rfl⟩
  obtain ⟨_, _, t2⟩ := trod_at Try.underlying32 h (i := 2) (T := 29) (off := 2) ⟨_, rfl, rfl, rfl⟩
  obtain ⟨_, _, t3⟩ := trod_at Try.underlying32 h (i := 3) (T := 30) (off := 13) ⟨_, rfl, rfl, rfl⟩
  obtain ⟨a0, h0, w0⟩ := trod_i Try.underlying3 (by kernel_rfl) t0
  obtain ⟨a1, h1, w1⟩ := trod_i Try.underlying3 (by kernel_rfl) t1
  obtain ⟨j, h2, w2⟩ := open_joint t2
  rw [show Try.prog.cellsOf 29 = 11 by kernel_rfl] at h2
  match cs, hl with
  | u0 :: u1 :: r, hl =>
    simp at h0 h1
    subst h0 h1
    simp only [List.drop_succ_cons, List.drop_zero] at h2 t3
    simp only [List.length_cons] at hl
    have hr : r = j.cs ++ r.drop 11 := by rw [← h2, List.take_append_drop]
    have hd : (r.drop 11).length = 1 := by rw [List.length_drop]; omega
    match hq : r.drop 11, hd with
    | [s], _ =>
      rw [hq] at t3 hr
      rw [show Try.prog.cellsOf 30 = 1 by kernel_rfl] at t3
      have hs : ∃ A len cap, s = .slice A len cap := by
        rcases DataW.trod_slice Try.underlying30 t3 with ⟨h0, _⟩ | ⟨a, l, c, _, _, _, _, h0, _⟩
        · simp at h0; exact ⟨_, _, _, h0⟩
        · simp at h0; exact ⟨_, _, _, h0⟩
      obtain ⟨A, len, cap, rfl⟩ := hs
      obtain ⟨es, h4, h5⟩ := open_entries t3
      refine ⟨⟨a0, a1, j, A, len, cap, es⟩, ?_, h4, wf64 w0, wf64 w1, w2, h5⟩
      rw [hr]
      rfl
theorem open_agg {t : TypeId} {v : Value} {d : DataW H} {ps : List MemPlace} {P : Program} {k : Nat} {fs : Array Field} (ht : P.underlying t = some (.struct fs)) (hk : P.cellsOf t = k) (h1 : 1 < k) (h : DataW.Trod enc P w base spare held t v d ps) :
    ∃ n cs, v = aggV cs ∧ DataW.trod enc P w base spare held n t cs = some (d, ps) := by
  obtain ⟨n, h⟩ := h
  have hl := trod_len ht h
  rw [hk] at hl
  refine ⟨n, v.cells.toList, ?_, h⟩
  cases v <;> simp [Value.cells] at hl <;> first | omega | (simp [aggV, Value.cells])
end
end Go.Sx
