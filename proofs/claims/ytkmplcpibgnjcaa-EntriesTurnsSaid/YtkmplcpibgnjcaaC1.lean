/- slices.Backward over entries: the iterator's contract. -/
import Derived.RangeFuncNested
import Derived.RangeFuncBound
import Derived.RangeFuncCalls
import Derived.RangeFuncLeaves
import Derived.Shelf.Abstract
import Derived.Shelf.RegionOpen
import Derived.WalkKit
import Derived.OwnWalkIn
import Derived.TacticsInMore
import Derived.LoopNIn
import Derived.LoopIn
import Derived.Test.YtkmplcpibgnjcaaE2
namespace Go.Sx
open Go.Proofs Go.RowKit Go.Shelf
attribute [local go_sem] Oper.semAt_some

def bwF (len : Nat) (es : Nat → Entry) (j : Nat) : Int × Entry := ((len : Int) - 1 - j, es (len - 1 - j))
def upto {α : Type} (f : Nat → α) (k : Nat) : List α := (List.range k).map f
theorem upto_succ {α : Type} (f : Nat → α) (k : Nat) : upto f (k + 1) = upto f k ++ [f k] := by simp [upto, List.range_succ]
theorem upto_length {α : Type} (f : Nat → α) (k : Nat) : (upto f k).length = k := by simp [upto]

set_option maxRecDepth 100000 in
set_option maxHeartbeats 2000000 in
theorem Bw1_in (F : Fence) (n : Nat) (h87 : F.fn 87) (hro : F.round = none) (hn : 1 ≤ n) (l Bs n₀ b off len cap : Nat) (es : Nat → Entry) (hreach : len ≤ 1048576) (hb : b < n₀) (J Jx : List (Int × Entry) → World → Prop)
    (hY : ∀ pre x W, J pre W → pre.length < len → YieldAt F (n - 1) Try.prog l #[.int .i64 x.1, aggV x.2.cs] W fun e W' =>
      (e = .returned (.bool true) ∧ J (pre ++ [x]) W' ∧ Below n₀ W W') ∨ (e = .returned (.bool false) ∧ Jx (pre ++ [x]) W'))
    (W : World) (hBs : W.cell? ⟨Bs, 0, none⟩ = some (.slice (some ⟨b, off, none⟩) len cap)) (hBn : Bs < n₀)
    (hc : ∀ j, j < len → ∀ (m : Nat) (v : Value), (es j).cs[m]? = some v → W.cell? ⟨b, off + j * 14 + m, none⟩ = some v) (h0 : J [] W) :
    CallsIn F n Try.prog 87 #[.func (.yield l) #[] #[], .pointer (some ⟨Bs, 0, none⟩)] W fun e W' => (∃ v, e = .returned v) ∧
      ((∃ ys, ys = upto (bwF len es) len ∧ J ys W') ∨ (∃ pre, (∃ k, k ≤ len ∧ pre = upto (bwF len es) k) ∧ Jx pre W')) := by
  refine callsIn_of_wp Try.func87 rfl h87 ?_ hro
  simp only [Try.ntmps87, List.size_toArray, List.length_cons, List.length_nil, Nat.reduceAdd, Nat.reduceSub, Array.replicate_succ, Array.replicate_zero, List.push_toArray, List.append_toArray, List.nil_append, List.cons_append]
  gi_wp2
  gi_loopw [3] (fun i wr => ∃ k : Nat, k ≤ len ∧ i = .int .i64 ((len : Int) - 1 - k) ∧ J (upto (bwF len es) k) wr ∧ Below n₀ W wr)
    (fun i _ => (intOf i + 1).toNat)
  case atStart => exact ⟨0, Nat.zero_le _, by simp, h0, Below.refl _ _⟩
  case round =>
    obtain ⟨k, hk, rfl, hJs, hnx⟩ := hrel
    have hBs' : wr.cell? ⟨Bs, 0, none⟩ = some (.slice (some ⟨b, off, none⟩) len cap) := (hnx.cell (p := ⟨Bs, 0, none⟩) hBn).trans hBs
    by_cases hlt : k < len
    · obtain ⟨fn, tmps, assign, body, hy, hR⟩ := hY _ (bwF len es k) wr hJs (by rw [upto_length]; exact hlt)
      dsimp only [bwF] at hy
      have hcx : ∀ (m : Nat) (v : Value), (es (len - 1 - k)).cs[m]? = some v → wr.cell? ⟨b, off + (len - 1 - k) * 14 + m, none⟩ = some v := fun m v hv =>
        (hnx.cell (p := ⟨b, off + (len - 1 - k) * 14 + m, none⟩) hb).trans (hc (len - 1 - k) (by omega) m v hv)
      have hup : upto (bwF len es) k ++ [bwF len es k] = upto (bwF len es) (k + 1) := (upto_succ _ _).symm
      rw [hup] at hR
      obtain ⟨e, he⟩ : ∃ e, es (len - 1 - k) = e := ⟨_, rfl⟩
      rw [he] at hcx hy
      obtain ⟨t0, k0, d0, ⟨c0, c1, c2, c3, c4⟩, ⟨f0, f1, f2, f3, f4⟩, tw⟩ := e
      have hcs : aggV (Entry.cs ⟨t0, k0, d0, ⟨c0, c1, c2, c3, c4⟩, ⟨f0, f1, f2, f3, f4⟩, tw⟩) = .agg #[.int .i64 t0, .int .i64 k0, .string d0, .int .u16 c0, .int .u16 c1, .int .u16 c2, .int .i64 c3, .int .i64 c4, .int .u16 f0, .int .u16 f1, .int .u16 f2, .int .i64 f3, .int .i64 f4, .bool tw] := rfl
      simp only [hcs] at hy
      have x0 := hcx 0 _ rfl
      have x1 := hcx 1 _ rfl
      have x2 := hcx 2 _ rfl
      have x3 := hcx 3 _ rfl
      have x4 := hcx 4 _ rfl
      have x5 := hcx 5 _ rfl
      have x6 := hcx 6 _ rfl
      have x7 := hcx 7 _ rfl
      have x8 := hcx 8 _ rfl
      have x9 := hcx 9 _ rfl
      have x10 := hcx 10 _ rfl
      have x11 := hcx 11 _ rfl
      have x12 := hcx 12 _ rfl
      have x13 := hcx 13 _ rfl
      simp only [Nat.add_zero] at x0
      clear hcx
      have hge : (0 : Int) ≤ (len : Int) - 1 - k := by omega
      have hltn : (len : Int) - 1 - k < len := by omega
      have hnat : ((len : Int) - 1 - k).toNat = len - 1 - k := by omega
      gi_wp2
      refine hR.mono ?_
      rintro e W3 (⟨rfl, hJ3, hk3⟩ | ⟨rfl, hJx3⟩)
      · gi_wp2
        go_roundw
        case rel => exact ⟨k + 1, by omega, by congr 1; omega, hJ3, hnx.trans hk3⟩
        case measure => simp [intOf]; omega
      · gi_wp2
        refine bodyPost_ret (results_none rfl _ _ _) rfl ?_
        exact ⟨⟨_, rfl⟩, .inr ⟨_, ⟨k + 1, by omega, rfl⟩, hJx3⟩⟩
    · obtain rfl : k = len := by omega
      gi_wp2
      go_end0
      exact ⟨⟨_, rfl⟩, .inl ⟨_, rfl, hJs⟩⟩

set_option maxRecDepth 100000 in
set_option maxHeartbeats 1000000 in
/-- .. of no entries: no round. -/
theorem Bw0_in (F : Fence) (n : Nat) (h87 : F.fn 87) (hro : F.round = none) (l Bs : Nat) (A : Option Addr) (cap : Nat) (J : List (Int × Entry) → World → Prop) (W : World) (hBs : W.cell? ⟨Bs, 0, none⟩ = some (.slice A 0 cap)) (h0 : J [] W) :
    CallsIn F n Try.prog 87 #[.func (.yield l) #[] #[], .pointer (some ⟨Bs, 0, none⟩)] W fun e W' => (∃ v, e = .returned v) ∧ J [] W' := by
  refine callsIn_of_wp Try.func87 rfl h87 ?_ hro
  simp only [Try.ntmps87, List.size_toArray, List.length_cons, List.length_nil, Nat.reduceAdd, Nat.reduceSub, Array.replicate_succ, Array.replicate_zero, List.push_toArray, List.append_toArray, List.nil_append, List.cons_append]
  gi_wp2
  gi_loopw [3] (fun i wr => i = .int .i64 (-1) ∧ J [] wr) (fun _ _ => 0)
  case atStart => exact ⟨rfl, h0⟩
  case round =>
    obtain ⟨rfl, hJs⟩ := hrel
    gi_wp2
    go_end0
    exact ⟨⟨_, rfl⟩, hJs⟩

set_option maxHeartbeats 1000000 in
theorem Bw_in (F : Fence) (n : Nat) (h62 : F.fn 62) (hro : F.round = none) (a : Option Addr) (len cap : Nat) (w : World) :
    CallsIn F n Try.prog 62 #[.slice a len cap] w fun e w' => e = .returned (.func (.func 87) #[] #[.pointer (some ⟨w.heap.size, 0, none⟩)]) ∧ w' = w.alloc (.cells #[.slice a len cap] 30) := by
  refine callsIn_of_wp Try.func62 rfl h62 ?_ hro
  simp only [Try.ntmps62, List.size_toArray, List.length_cons, List.length_nil, Nat.reduceAdd, Nat.reduceSub, Array.replicate_succ, Array.replicate_zero, List.push_toArray, List.append_toArray, List.nil_append, List.cons_append]
  gi_wp2
  go_ret
  exact ⟨rfl, rfl⟩

/-- a box of many cells -/
def BoxM (W : World) (B : Nat) (t : TypeId) (cs : List Value) : Prop := W.heap[B]? = some (.cells cs.toArray t (0, 0))
theorem boxM_own {β : Type} (B : Nat) (t : TypeId) (f : β → List Value) : Go.Own (fun s W => BoxM W B t (f s)) := fun s X Y row hs hg hrow =>
  (hg.block B (Array.getElem?_eq_some_iff.1 hs).1 (fun e' => by obtain ⟨o, ho, hc⟩ := hrow B e'.symm; rw [show X.heap[B]? = _ from hs] at ho; cases ho; cases hc)).trans hs
theorem BoxM.set {W : World} {B : Nat} {t : TypeId} {cs : List Value} (h : BoxM W B t cs) (i : Nat) (v : Value) : BoxM (W.setCell ⟨B, i, none⟩ v) B t (cs.set i v) := by
  unfold BoxM at *
  have hb : B < W.heap.size := (Array.getElem?_eq_some_iff.1 h).1
  simp only [World.setCell, Array.getElem?_modify, if_true, h, Option.map_some, List.setIfInBounds_toArray, Option.isSome_none, Bool.false_eq_true, if_false]
theorem sets_others (B : Nat) : ∀ (vs : List Value) (o : Nat) (W : World), KeepsOthers W (W.setCells B o vs)
  | [], _, W => KeepsOthers.refl W
  | v :: vs, o, W => (KeepsOthers.setCell W ⟨B, o, none⟩ v).trans (sets_others B vs (o + 1) _)
theorem sets_below {n B : Nat} (h : n ≤ B) : ∀ (vs : List Value) (o : Nat) {A W : World}, Below n A W → Below n A (W.setCells B o vs)
  | [], _, _, _, hb => hb
  | v :: vs, o, _, _, hb => sets_below h vs (o + 1) (hb.setCell (p := ⟨B, o, none⟩) h v)
theorem sets_box {B : Nat} {t : TypeId} : ∀ (vs old pre : List Value) {W : World}, BoxM W B t (pre ++ old) → old.length = vs.length → BoxM (W.setCells B pre.length vs) B t (pre ++ vs)
  | [], old, pre, W, h, hl => by
    have : old = [] := List.eq_nil_of_length_eq_zero hl
    subst this
    exact h
  | v :: vs, [], pre, W, h, hl => by simp at hl
  | v :: vs, u :: old, pre, W, h, hl => by
    have h1 := h.set pre.length v
    have e : (pre ++ u :: old).set pre.length v = (pre ++ [v]) ++ old := by simp
    rw [e] at h1
    have h2 := sets_box vs old (pre ++ [v]) h1 (by simpa using hl)
    simp only [List.length_append, List.length_singleton, List.append_assoc, List.singleton_append] at h2
    exact h2
theorem sets_box0 {W : World} {B : Nat} {t : TypeId} {old vs : List Value} (h : BoxM W B t old) (hl : old.length = vs.length) : BoxM (W.setCells B 0 vs) B t vs := sets_box vs old [] h hl

/-- slices.Backward's value at a slice of entries that lies below n₀ -/
theorem Bw_stops (F : Fence) (n : Nat) (h87 : F.fn 87) (hro : F.round = none) (hn : 1 ≤ n) (Bs n₀ : Nat) (A : Option Addr) (len cap : Nat) (es : Nat → Entry) (hreach : len ≤ 1048576) (w : World) (hBs : Bs < w.heap.size) (hn₀ : n₀ ≤ w.heap.size) (hBn : Bs < n₀)
    (hc : w.cell? ⟨Bs, 0, none⟩ = some (.slice A len cap)) (hA : 0 < len → ∃ b off, A = some ⟨b, off, none⟩ ∧ b < n₀ ∧ ∀ j, j < len → ∀ (m : Nat) (v : Value), (es j).cs[m]? = some v → w.cell? ⟨b, off + j * 14 + m, none⟩ = some v) :
    SeqStopsK F n Try.prog 87 #[.pointer (some ⟨Bs, 0, none⟩)] (fun x : Int × Entry => #[Value.int .i64 x.1, aggV x.2.cs]) (Below n₀) (fun ys => ys = upto (bwF len es) len) (fun pre => ∃ k, k ≤ len ∧ pre = upto (bwF len es) k) len w := fun l J Jx W hW _ _ hY h0 => by
  have hc' := (hW.cell (p := ⟨Bs, 0, none⟩) hBs).trans hc
  by_cases hl : 0 < len
  · obtain ⟨b, off, rfl, hb, hcs⟩ := hA hl
    exact Bw1_in F n h87 hro hn l Bs n₀ b off len cap es hreach hb J Jx hY W hc' hBn (fun j hj m v hv => (hW.cell (p := ⟨b, off + j * 14 + m, none⟩) (Nat.lt_of_lt_of_le hb hn₀)).trans (hcs j hj m v hv)) h0
  · obtain rfl : len = 0 := by omega
    exact (Bw0_in F n h87 hro l Bs A cap J W hc' h0).mono fun e W' ⟨he, hj⟩ => ⟨he, .inl ⟨_, rfl, hj⟩⟩

theorem res16 {W : World} {B : Nat} {j : Joint} {tmps : Array Value} (h : BoxM W B 29 j.cs) (ht : tmps.getD 2 undef = .pointer (some ⟨B, 0, none⟩)) : (results Try.f16 tmps).run Try.prog W = .ok (aggV j.cs) W := by
  have hr : Try.f16.results = #[.cell 2 29] := by kernel_rfl
  have ok := TEok.ok (t := 29) rfl
  have hl := run_loadCells_list (P := Try.prog) W ⟨B, 0, none⟩ j.cs (fun i v hv => by
    have e : (⟨B, 0, none⟩ : Addr).add i = ⟨B, i, none⟩ := by unfold Addr.add; split <;> simp_all
    rw [e, cell_of_row W B i _ _ _ h, List.getElem?_toArray]
    exact hv)
  have hlen : j.cs.length = 11 := rfl
  rw [hlen] at hl
  have h2 : (resF tmps (.cell 2 29)).run Try.prog W = .ok (aggV j.cs) W := by
    simp only [resF, ht]
    have : (asAddr (.pointer (some ⟨B, 0, none⟩))).run Try.prog W = .ok ⟨B, 0, none⟩ W := rfl
    simp only [Sem.run_bind, this, Result.andThen_ok, loadVar, ok.agg, ok.size, if_true, hl, Sem.run_pure]
    rfl
  rw [results_eq, hr]
  simp only [List.mapM_toArray, List.mapM_cons, List.mapM_nil, Sem.run_bind, Sem.run_map, h2, Result.andThen_ok, Sem.run_pure]
  rfl
theorem upto_split {α : Type} (f : Nat → α) {k n : Nat} (h : k ≤ n) : ∃ r, upto f n = upto f k ++ r := by
  refine ⟨((List.range n).drop k).map f, ?_⟩
  unfold upto
  rw [← List.map_append]
  congr 1
  have : List.range k = (List.range n).take k := by
    rw [List.take_range]; congr 1; omega
  rw [this, List.take_append_drop]

set_option maxRecDepth 100000 in
set_option maxHeartbeats 2000000 in
theorem Conf_in (F : Fence) (n : Nat) (h16 : F.fn 16) (h62 : F.fn 62) (h87 : F.fn 87) (hro : F.round = none) (hn : 3 ≤ n) (b bt : Int) (a0 a1 a2 a3 a4 b0 b1 b2 b3 b4 : Int) (two : Bool) (A : Option Addr) (len cap : Nat) (es : Nat → Entry) (hreach : len ≤ 1048576) (w : World)
    (hA : 0 < len → ∃ bb off, A = some ⟨bb, off, none⟩ ∧ bb < w.heap.size ∧ ∀ j, j < len → ∀ (m : Nat) (v : Value), (es j).cs[m]? = some v → w.cell? ⟨bb, off + j * 14 + m, none⟩ = some v) :
    CallsIn F n Try.prog 16 #[.agg #[.int .i64 b, .int .i64 bt, .int .u16 a0, .int .u16 a1, .int .u16 a2, .int .i64 a3, .int .i64 a4, .int .u16 b0, .int .u16 b1, .int .u16 b2, .int .i64 b3, .int .i64 b4, .bool two, .slice A len cap]] w fun e W' =>
      e = .returned (aggV (Joint.cs (((upto (bwF len es) len).find? fun x => x.2.kind == 2).elim ⟨⟨a0, a1, a2, a3, a4⟩, ⟨b0, b1, b2, b3, b4⟩, two⟩ fun x => x.2.conf))) ∧ Below w.heap.size w W' := by
  have h1 : 1 ≤ n := by omega
  refine callsIn_of_wp_marks Try.func16 rfl h16 ?_ hro
  simp only [Try.ntmps16, List.size_toArray, List.length_cons, List.length_nil, Nat.reduceAdd, Nat.reduceSub, Array.replicate_succ, Array.replicate_zero, List.push_toArray, List.append_toArray, List.nil_append, List.cons_append]
  gi_wp2_with (gi_at_call 62; refine (Bw_in F (n - 1) h62 hro _ _ _ _).mono ?_; rintro e w' ⟨rfl, rfl⟩)
  obtain ⟨wa, hwa⟩ : ∃ wa, w.alloc (.cells #[.int .i64 b, .int .i64 bt, .int .u16 a0, .int .u16 a1, .int .u16 a2, .int .i64 a3, .int .i64 a4, .int .u16 b0, .int .u16 b1, .int .u16 b2, .int .i64 b3, .int .i64 b4, .bool two, .slice A len cap] 32) = wa := ⟨_, rfl⟩
  obtain ⟨wb, hwb⟩ : ∃ wb, wa.alloc (.cells #[.int .u16 0, .int .u16 0, .int .u16 0, .int .i64 0, .int .i64 0, .int .u16 0, .int .u16 0, .int .u16 0, .int .i64 0, .int .i64 0, .bool false] 29) = wb := ⟨_, rfl⟩
  obtain ⟨W0, hW0⟩ : ∃ W0, wb.alloc (.cells #[.slice A len cap] 30) = W0 := ⟨_, rfl⟩
  rw [hwa, hwb, hW0]
  have sa : wa.heap.size = w.heap.size + 1 := by rw [← hwa]; simp
  have sb : wb.heap.size = w.heap.size + 2 := by rw [← hwb]; simp [sa]
  have s0 : W0.heap.size = w.heap.size + 3 := by rw [← hW0]; simp [sb]
  have Ba : Below w.heap.size w wa := by rw [← hwa]; exact (Below.refl _ w).alloc (Nat.le_refl _) _
  have Bb : Below wa.heap.size wa wb := by rw [← hwb]; exact (Below.refl _ wa).alloc (Nat.le_refl _) _
  have B0 : Below wb.heap.size wb W0 := by rw [← hW0]; exact (Below.refl _ wb).alloc (Nat.le_refl _) _
  have Bw : Below w.heap.size w W0 := Ba.trans ((Bb.mono (by omega)).trans (B0.mono (by omega)))
  have x1 : BoxM W0 w.heap.size 32 [.int .i64 b, .int .i64 bt, .int .u16 a0, .int .u16 a1, .int .u16 a2, .int .i64 a3, .int .i64 a4, .int .u16 b0, .int .u16 b1, .int .u16 b2, .int .i64 b3, .int .i64 b4, .bool two, .slice A len cap] :=
    (B0.block _ (by omega)).trans ((Bb.block _ (by omega)).trans (by rw [← hwa]; exact World.alloc_heap_new w _))
  have x2 : BoxM W0 (w.heap.size + 1) 29 [.int .u16 0, .int .u16 0, .int .u16 0, .int .i64 0, .int .i64 0, .int .u16 0, .int .u16 0, .int .u16 0, .int .i64 0, .int .i64 0, .bool false] :=
    (B0.block _ (by omega)).trans (by rw [← sa, ← hwb]; exact World.alloc_heap_new wa _)
  have x3 : W0.cell? ⟨w.heap.size + 1 + 1, 0, none⟩ = some (.slice A len cap) := by
    have := World.alloc_heap_new wb (.cells #[.slice A len cap] 30)
    rw [hW0, sb] at this
    simp [World.cell?, this]
  clear hwa hwb hW0
  refine wpIn_rangeFunc_ownH hro h1 (gf := 87) (lb := #[.pointer (some ⟨w.heap.size + 1 + 1, 0, none⟩)]) rfl h87 (enters_of Try.func87 (by kernel_rfl) rfl)
    (Bw_stops F (n - 1) h87 hro (by omega) (w.heap.size + 1 + 1) W0.heap.size A len cap es hreach W0 (by omega) (Nat.le_refl _) (by omega) x3 (fun h => by
      obtain ⟨bb, off, e1, e2, e3⟩ := hA h
      exact ⟨bb, off, e1, by omega, fun j hj m v hv => (Bw.cell (p := ⟨bb, off + j * 14 + m, none⟩) e2).trans (e3 j hj m v hv)⟩)) belowK_t (belowK_b (Nat.le_refl _)) (Below.refl _ _) (fun _ => rfl)
    (fun pre W => Below W0.heap.size W0 W ∧ ∀ x ∈ pre, ¬ x.2.kind = 2)
    (fun c pre W => (BoxM W (w.heap.size + 1) 29 (((pre.find? fun x => x.2.kind == 2).map fun x => x.2.conf.cs).getD []) ∧ Below w.heap.size w W) ∧ (c = .ret ∧ ∃ x, pre.find? (fun x => x.2.kind == 2) = some x))
    (OwnFrom.and (ownFrom_below (Nat.le_refl _) (Nat.le_refl _)) (ownFrom_pure _ _))
    (fun c => OwnFrom.and (OwnFrom.and (Own.from (boxM_own _ _ fun pre : List (Int × Entry) => (((pre.find? fun x => x.2.kind == 2).map fun x => x.2.conf.cs).getD [])) _) (ownFrom_below (Nat.le_refl _) (by omega))) (ownFrom_pure _ _))
    ⟨Below.refl _ _, fun x hx => absurd hx (by simp)⟩
    (fun x a' W => ∃ Bx, W0.heap.size ≤ Bx ∧ BoxM W Bx 47 x.2.cs ∧ a' = { tmps := #[.agg #[.int .i64 b, .int .i64 bt, .int .u16 a0, .int .u16 a1, .int .u16 a2, .int .i64 a3, .int .i64 a4, .int .u16 b0, .int .u16 b1, .int .u16 b2, .int .i64 b3, .int .i64 b4, .bool two, .slice A len cap],
      .pointer (some ⟨w.heap.size, 0, none⟩), .pointer (some ⟨w.heap.size + 1, 0, none⟩), undef, .pointer (some ⟨Bx, 0, none⟩), .pointer (some ⟨w.heap.size, 13, none⟩), .slice A len cap, .func (.func 87) #[] #[.pointer (some ⟨w.heap.size + 1 + 1, 0, none⟩)], .int .i64 x.1, aggV x.2.cs, undef, undef, undef, undef, undef, undef, undef], defers := [] })
    (fun x a' _ X Y row hs hg hr => by obtain ⟨Bx, h1, h2, h3⟩ := hs; exact ⟨Bx, h1, boxM_own Bx 47 (fun (_ : Unit) => x.2.cs) () X Y row h2 hg (fun r e => (hr r e).2), h3⟩)
    ?assign ?body ?done ?stop
  case assign =>
    rintro l pre ⟨xi, t0, k0, d0, ⟨c0, c1, c2, c3, c4⟩, ⟨f0, f1, f2, f3, f4⟩, tw⟩ W K ⟨hB, hp⟩ hK
    have hcs : aggV (Entry.cs ⟨t0, k0, d0, ⟨c0, c1, c2, c3, c4⟩, ⟨f0, f1, f2, f3, f4⟩, tw⟩) = .agg #[.int .i64 t0, .int .i64 k0, .string d0, .int .u16 c0, .int .u16 c1, .int .u16 c2, .int .i64 c3, .int .i64 c4, .int .u16 f0, .int .u16 f1, .int .u16 f2, .int .i64 f3, .int .i64 f4, .bool tw] := rfl
    simp only [hcs]
    gi_wp2
    exact hK _ _ ((KeepsOthers.alloc _ _).from _) ((Below.refl _ W).alloc hB.size _) ⟨hB.alloc hB.size _, hp⟩ ⟨W.heap.size, hB.size, World.alloc_heap_new W _, rfl⟩
  case body =>
    rintro l pre ⟨xi, t0, k0, d0, ⟨c0, c1, c2, c3, c4⟩, ⟨f0, f1, f2, f3, f4⟩, tw⟩ a' W hl ⟨r, hr⟩ ⟨hB, hp⟩ ⟨Bx, hBx, bX, rfl⟩ hlt
    have y2 : W.heap[w.heap.size + 1]? = some (.cells #[.int .u16 0, .int .u16 0, .int .u16 0, .int .i64 0, .int .i64 0, .int .u16 0, .int .u16 0, .int .u16 0, .int .i64 0, .int .i64 0, .bool false] 29 (0, 0)) := (hB.block _ (by omega)).trans x2
    have q1 : W.cell? ⟨Bx, 1, none⟩ = some (.int .i64 k0) := by simp [World.cell?, show W.heap[Bx]? = _ from bX, Entry.cs]
    have q3 : W.cell? ⟨Bx, 3, none⟩ = some (.int .u16 c0) := by simp [World.cell?, show W.heap[Bx]? = _ from bX, Entry.cs, Joint.cs, Config.cs]
    have q4 : W.cell? ⟨Bx, 4, none⟩ = some (.int .u16 c1) := by simp [World.cell?, show W.heap[Bx]? = _ from bX, Entry.cs, Joint.cs, Config.cs]
    have q5 : W.cell? ⟨Bx, 5, none⟩ = some (.int .u16 c2) := by simp [World.cell?, show W.heap[Bx]? = _ from bX, Entry.cs, Joint.cs, Config.cs]
    have q6 : W.cell? ⟨Bx, 6, none⟩ = some (.int .i64 c3) := by simp [World.cell?, show W.heap[Bx]? = _ from bX, Entry.cs, Joint.cs, Config.cs]
    have q7 : W.cell? ⟨Bx, 7, none⟩ = some (.int .i64 c4) := by simp [World.cell?, show W.heap[Bx]? = _ from bX, Entry.cs, Joint.cs, Config.cs]
    have q8 : W.cell? ⟨Bx, 8, none⟩ = some (.int .u16 f0) := by simp [World.cell?, show W.heap[Bx]? = _ from bX, Entry.cs, Joint.cs, Config.cs]
    have q9 : W.cell? ⟨Bx, 9, none⟩ = some (.int .u16 f1) := by simp [World.cell?, show W.heap[Bx]? = _ from bX, Entry.cs, Joint.cs, Config.cs]
    have q10 : W.cell? ⟨Bx, 10, none⟩ = some (.int .u16 f2) := by simp [World.cell?, show W.heap[Bx]? = _ from bX, Entry.cs, Joint.cs, Config.cs]
    have q11 : W.cell? ⟨Bx, 11, none⟩ = some (.int .i64 f3) := by simp [World.cell?, show W.heap[Bx]? = _ from bX, Entry.cs, Joint.cs, Config.cs]
    have q12 : W.cell? ⟨Bx, 12, none⟩ = some (.int .i64 f4) := by simp [World.cell?, show W.heap[Bx]? = _ from bX, Entry.cs, Joint.cs, Config.cs]
    have q13 : W.cell? ⟨Bx, 13, none⟩ = some (.bool tw) := by simp [World.cell?, show W.heap[Bx]? = _ from bX, Entry.cs, Joint.cs, Config.cs]
    have z0 : W.cell? ⟨w.heap.size + 1, 0, none⟩ = some (.int .u16 0) := by simp [World.cell?, y2]
    have g0 : W.frozen? ⟨w.heap.size + 1, 0, none⟩ = false := by simp [World.frozen?, y2]
    have z1 : W.cell? ⟨w.heap.size + 1, 1, none⟩ = some (.int .u16 0) := by simp [World.cell?, y2]
    have g1 : W.frozen? ⟨w.heap.size + 1, 1, none⟩ = false := by simp [World.frozen?, y2]
    have z2 : W.cell? ⟨w.heap.size + 1, 2, none⟩ = some (.int .u16 0) := by simp [World.cell?, y2]
    have g2 : W.frozen? ⟨w.heap.size + 1, 2, none⟩ = false := by simp [World.frozen?, y2]
    have z3 : W.cell? ⟨w.heap.size + 1, 3, none⟩ = some (.int .i64 0) := by simp [World.cell?, y2]
    have g3 : W.frozen? ⟨w.heap.size + 1, 3, none⟩ = false := by simp [World.frozen?, y2]
    have z4 : W.cell? ⟨w.heap.size + 1, 4, none⟩ = some (.int .i64 0) := by simp [World.cell?, y2]
    have g4 : W.frozen? ⟨w.heap.size + 1, 4, none⟩ = false := by simp [World.frozen?, y2]
    have z5 : W.cell? ⟨w.heap.size + 1, 5, none⟩ = some (.int .u16 0) := by simp [World.cell?, y2]
    have g5 : W.frozen? ⟨w.heap.size + 1, 5, none⟩ = false := by simp [World.frozen?, y2]
    have z6 : W.cell? ⟨w.heap.size + 1, 6, none⟩ = some (.int .u16 0) := by simp [World.cell?, y2]
    have g6 : W.frozen? ⟨w.heap.size + 1, 6, none⟩ = false := by simp [World.frozen?, y2]
    have z7 : W.cell? ⟨w.heap.size + 1, 7, none⟩ = some (.int .u16 0) := by simp [World.cell?, y2]
    have g7 : W.frozen? ⟨w.heap.size + 1, 7, none⟩ = false := by simp [World.frozen?, y2]
    have z8 : W.cell? ⟨w.heap.size + 1, 8, none⟩ = some (.int .i64 0) := by simp [World.cell?, y2]
    have g8 : W.frozen? ⟨w.heap.size + 1, 8, none⟩ = false := by simp [World.frozen?, y2]
    have z9 : W.cell? ⟨w.heap.size + 1, 9, none⟩ = some (.int .i64 0) := by simp [World.cell?, y2]
    have g9 : W.frozen? ⟨w.heap.size + 1, 9, none⟩ = false := by simp [World.frozen?, y2]
    have z10 : W.cell? ⟨w.heap.size + 1, 10, none⟩ = some (.bool false) := by simp [World.cell?, y2]
    have g10 : W.frozen? ⟨w.heap.size + 1, 10, none⟩ = false := by simp [World.frozen?, y2]
    by_cases hk : k0 = 2
    · subst hk
      gi_wp2
      have hf : (pre ++ [((xi, ⟨t0, 2, d0, ⟨c0, c1, c2, c3, c4⟩, ⟨f0, f1, f2, f3, f4⟩, tw⟩) : Int × Entry)]).find? (fun x => x.2.kind == 2) = some (xi, ⟨t0, 2, d0, ⟨c0, c1, c2, c3, c4⟩, ⟨f0, f1, f2, f3, f4⟩, tw⟩) := by
        rw [List.find?_append, List.find?_eq_none.2 (fun x hx => by simpa using hp x hx)]
        rfl
      have hBw : Below w.heap.size w W := Bw.trans (hB.mono (by omega))
      have k1 := (sets_others (w.heap.size + 1) (Joint.cs ⟨⟨c0, c1, c2, c3, c4⟩, ⟨f0, f1, f2, f3, f4⟩, tw⟩) 0 W).from (w.heap.size + 3)
      have k2 := sets_box0 (vs := Joint.cs ⟨⟨c0, c1, c2, c3, c4⟩, ⟨f0, f1, f2, f3, f4⟩, tw⟩) (show BoxM W (w.heap.size + 1) 29 [.int .u16 0, .int .u16 0, .int .u16 0, .int .i64 0, .int .i64 0, .int .u16 0, .int .u16 0, .int .u16 0, .int .i64 0, .int .i64 0, .bool false] from y2) rfl
      have k3 := sets_below (n := w.heap.size) (B := w.heap.size + 1) (by omega) (Joint.cs ⟨⟨c0, c1, c2, c3, c4⟩, ⟨f0, f1, f2, f3, f4⟩, tw⟩) 0 hBw
      simp only [Joint.cs, Config.cs, List.cons_append, List.nil_append, World.setCells, Nat.zero_add, Nat.reduceAdd] at k1 k2 k3
      refine ⟨k1, ⟨?_, k3⟩, rfl, _, _, hf⟩
      rw [hf]
      exact k2
    · gi_wp2
      refine ⟨.refl _ _, Below.refl _ _, by rw [← s0]; exact hB, fun a e hx => ?_⟩
      rcases List.mem_append.1 hx with hx | hx
      · exact hp _ hx
      · simp at hx; rw [hx.2]; exact hk
  case done =>
    rintro D ys W hD rfl ⟨hB, hp⟩ hK
    have y2 : W.heap[w.heap.size + 1]? = some (.cells #[.int .u16 0, .int .u16 0, .int .u16 0, .int .i64 0, .int .i64 0, .int .u16 0, .int .u16 0, .int .u16 0, .int .i64 0, .int .i64 0, .bool false] 29 (0, 0)) := (hB.block _ (by omega)).trans x2
    have y1 : W.heap[w.heap.size]? = some (.cells #[.int .i64 b, .int .i64 bt, .int .u16 a0, .int .u16 a1, .int .u16 a2, .int .i64 a3, .int .i64 a4, .int .u16 b0, .int .u16 b1, .int .u16 b2, .int .i64 b3, .int .i64 b4, .bool two, .slice A len cap] 32 (0, 0)) := (hB.block _ (by omega)).trans x1
    have z0 : W.cell? ⟨w.heap.size + 1, 0, none⟩ = some (.int .u16 0) := by simp [World.cell?, y2]
    have g0 : W.frozen? ⟨w.heap.size + 1, 0, none⟩ = false := by simp [World.frozen?, y2]
    have z1 : W.cell? ⟨w.heap.size + 1, 1, none⟩ = some (.int .u16 0) := by simp [World.cell?, y2]
    have g1 : W.frozen? ⟨w.heap.size + 1, 1, none⟩ = false := by simp [World.frozen?, y2]
    have z2 : W.cell? ⟨w.heap.size + 1, 2, none⟩ = some (.int .u16 0) := by simp [World.cell?, y2]
    have g2 : W.frozen? ⟨w.heap.size + 1, 2, none⟩ = false := by simp [World.frozen?, y2]
    have z3 : W.cell? ⟨w.heap.size + 1, 3, none⟩ = some (.int .i64 0) := by simp [World.cell?, y2]
    have g3 : W.frozen? ⟨w.heap.size + 1, 3, none⟩ = false := by simp [World.frozen?, y2]
    have z4 : W.cell? ⟨w.heap.size + 1, 4, none⟩ = some (.int .i64 0) := by simp [World.cell?, y2]
    have g4 : W.frozen? ⟨w.heap.size + 1, 4, none⟩ = false := by simp [World.frozen?, y2]
    have z5 : W.cell? ⟨w.heap.size + 1, 5, none⟩ = some (.int .u16 0) := by simp [World.cell?, y2]
    have g5 : W.frozen? ⟨w.heap.size + 1, 5, none⟩ = false := by simp [World.frozen?, y2]
    have z6 : W.cell? ⟨w.heap.size + 1, 6, none⟩ = some (.int .u16 0) := by simp [World.cell?, y2]
    have g6 : W.frozen? ⟨w.heap.size + 1, 6, none⟩ = false := by simp [World.frozen?, y2]
    have z7 : W.cell? ⟨w.heap.size + 1, 7, none⟩ = some (.int .u16 0) := by simp [World.cell?, y2]
    have g7 : W.frozen? ⟨w.heap.size + 1, 7, none⟩ = false := by simp [World.frozen?, y2]
    have z8 : W.cell? ⟨w.heap.size + 1, 8, none⟩ = some (.int .i64 0) := by simp [World.cell?, y2]
    have g8 : W.frozen? ⟨w.heap.size + 1, 8, none⟩ = false := by simp [World.frozen?, y2]
    have z9 : W.cell? ⟨w.heap.size + 1, 9, none⟩ = some (.int .i64 0) := by simp [World.cell?, y2]
    have g9 : W.frozen? ⟨w.heap.size + 1, 9, none⟩ = false := by simp [World.frozen?, y2]
    have z10 : W.cell? ⟨w.heap.size + 1, 10, none⟩ = some (.bool false) := by simp [World.cell?, y2]
    have g10 : W.frozen? ⟨w.heap.size + 1, 10, none⟩ = false := by simp [World.frozen?, y2]
    have r0 : W.cell? ⟨w.heap.size, 2, none⟩ = some (.int .u16 a0) := by simp [World.cell?, y1]
    have r1 : W.cell? ⟨w.heap.size, 3, none⟩ = some (.int .u16 a1) := by simp [World.cell?, y1]
    have r2 : W.cell? ⟨w.heap.size, 4, none⟩ = some (.int .u16 a2) := by simp [World.cell?, y1]
    have r3 : W.cell? ⟨w.heap.size, 5, none⟩ = some (.int .i64 a3) := by simp [World.cell?, y1]
    have r4 : W.cell? ⟨w.heap.size, 6, none⟩ = some (.int .i64 a4) := by simp [World.cell?, y1]
    have r5 : W.cell? ⟨w.heap.size, 7, none⟩ = some (.int .u16 b0) := by simp [World.cell?, y1]
    have r6 : W.cell? ⟨w.heap.size, 8, none⟩ = some (.int .u16 b1) := by simp [World.cell?, y1]
    have r7 : W.cell? ⟨w.heap.size, 9, none⟩ = some (.int .u16 b2) := by simp [World.cell?, y1]
    have r8 : W.cell? ⟨w.heap.size, 10, none⟩ = some (.int .i64 b3) := by simp [World.cell?, y1]
    have r9 : W.cell? ⟨w.heap.size, 11, none⟩ = some (.int .i64 b4) := by simp [World.cell?, y1]
    have r10 : W.cell? ⟨w.heap.size, 12, none⟩ = some (.bool two) := by simp [World.cell?, y1]
    gi_wp2
    have k1 := sets_others (w.heap.size + 1) (Joint.cs ⟨⟨a0, a1, a2, a3, a4⟩, ⟨b0, b1, b2, b3, b4⟩, two⟩) 0 W
    have k2 := sets_box0 (vs := Joint.cs ⟨⟨a0, a1, a2, a3, a4⟩, ⟨b0, b1, b2, b3, b4⟩, two⟩) (show BoxM W (w.heap.size + 1) 29 [.int .u16 0, .int .u16 0, .int .u16 0, .int .i64 0, .int .i64 0, .int .u16 0, .int .u16 0, .int .u16 0, .int .i64 0, .int .i64 0, .bool false] from y2) rfl
    have k3 := sets_below (n := w.heap.size) (B := w.heap.size + 1) (by omega) (Joint.cs ⟨⟨a0, a1, a2, a3, a4⟩, ⟨b0, b1, b2, b3, b4⟩, two⟩) 0 (Bw.trans (hB.mono (by omega)))
    obtain ⟨W', hW'⟩ : ∃ W', W.setCells (w.heap.size + 1) 0 (Joint.cs ⟨⟨a0, a1, a2, a3, a4⟩, ⟨b0, b1, b2, b3, b4⟩, two⟩) = W' := ⟨_, rfl⟩
    rw [hW'] at k1 k2 k3
    simp only [Joint.cs, Config.cs, List.cons_append, List.nil_append, World.setCells, Nat.zero_add, Nat.reduceAdd] at hW'
    rw [hW']
    have hK' := k1.same D _ hK rfl
    refine ⟨by simp, .inl ⟨_, _, rfl, run_takeDeferred hK', ?_⟩⟩
    have hg := grownBy_putObj' W' D (.deferred none)
    have k4 : BoxM (W'.putObj D (.deferred none)) (w.heap.size + 1) 29 (Joint.cs ⟨⟨a0, a1, a2, a3, a4⟩, ⟨b0, b1, b2, b3, b4⟩, two⟩) := (hg.block _ (Array.getElem?_eq_some_iff.1 k2).1 (by simp; omega)).trans k2
    have hf : (upto (bwF len es) len).find? (fun x => x.2.kind == 2) = none := List.find?_eq_none.2 (fun x hx => by simpa using hp x hx)
    rw [hf]
    exact ⟨_, res16 k4 rfl, rfl, k3.trans (belowK_b (w := w) (Nat.le_refl _) W' D _ _ (by omega) hK' rfl rfl)⟩
  case stop =>
    rintro D c pre W hD ⟨k, hk, rfl⟩ ⟨⟨hb2, hB⟩, rfl, x, hx⟩ hK
    gi_wp2
    refine ⟨by simp, .inl ⟨_, _, rfl, run_takeDeferred hK, ?_⟩⟩
    have hg := grownBy_putObj' W D (.deferred none)
    rw [hx] at hb2
    have hb2 : BoxM W (w.heap.size + 1) 29 x.2.conf.cs := hb2
    have k4 : BoxM (W.putObj D (.deferred none)) (w.heap.size + 1) 29 x.2.conf.cs := (hg.block _ (Array.getElem?_eq_some_iff.1 hb2).1 (by simp; omega)).trans hb2
    have hf : (upto (bwF len es) len).find? (fun x => x.2.kind == 2) = some x := by
      obtain ⟨r, hr⟩ := upto_split (bwF len es) hk
      rw [hr, List.find?_append, hx]
      rfl
    rw [hf]
    exact ⟨_, res16 k4 rfl, rfl, hB.trans (belowK_b (w := w) (Nat.le_refl _) W D _ _ (by omega) hK rfl rfl)⟩
end Go.Sx
