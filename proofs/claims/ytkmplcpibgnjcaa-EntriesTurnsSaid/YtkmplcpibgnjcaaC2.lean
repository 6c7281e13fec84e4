/- Conf: its contract. -/
import Derived.Test.YtkmplcpibgnjcaaC1
namespace Go.Sx
open Go.Proofs Go.RowKit Go.Shelf

/-- what is in force at the end -/
def confOf (es : List Entry) (j : Joint) : Joint := (es.reverse.find? fun e => e.kind == 2).elim j fun e => e.conf
theorem upto_rev (es : List Entry) : (upto (bwF es.length fun j => es[j]?.getD .zero) es.length).map (·.2) = es.reverse := by
  apply List.ext_getElem?
  intro i
  simp only [upto, List.map_map, List.getElem?_map]
  by_cases h : i < es.length
  · rw [List.getElem?_reverse h]
    have h2 : es.length - 1 - i < es.length := by omega
    simp [h, bwF, List.getElem?_eq_getElem h2]
  · have : es.reverse[i]? = none := List.getElem?_eq_none (by simp; omega)
    rw [this]
    simp; omega

theorem Conf_pc (l : LV) (H : Hp) (hl : l.ok H) (hb : l.n ≤ 1048576) : PC Try.prog 16 [aggV l.cs] H fun _ v => v = aggV (confOf l.es l.j).cs := by
  obtain ⟨b, bt, ⟨⟨a0, a1, a2, a3, a4⟩, ⟨b0, b1, b2, b3, b4⟩, two⟩, A, n, c, es⟩ := l
  obtain ⟨hn, hc, hr⟩ := hl
  simp only at hn hc hr hb
  intro w hw
  have h1 := Conf_in Fence.wide 3 trivial trivial trivial rfl (Nat.le_refl _) b bt a0 a1 a2 a3 a4 b0 b1 b2 b3 b4 two A n c (fun j => es[j]?.getD .zero) hb w (fun hl => by
    obtain ⟨ad, e1, e2, e3⟩ := hr 0 (es[0]'(by omega)).cs (by simp [List.getElem?_eq_getElem (show 0 < es.length by omega)])
    have hs := e3 0 (es[0]'(by omega)).cs[0] (List.getElem?_eq_getElem _)
    rw [Nat.zero_mul, show ad.add 0 = ad by simp [Addr.add]] at hs
    have hsp := hat_spot hs
    have hc0 := hat_cell hw hs
    rw [show ad.add 0 = ad by simp [Addr.add]] at hc0
    have hlt := World.block_lt_of_cell? w ad hc0
    obtain ⟨bb, off, sp⟩ := ad
    simp only at hsp; subst hsp
    refine ⟨bb, off, e1, hlt, fun j hj m v hv => ?_⟩
    have hjl : j < es.length := by omega
    simp only [List.getElem?_eq_getElem hjl, Option.getD_some] at hv
    obtain ⟨ad', f1, f2, f3⟩ := hr j (es[j]).cs (by simp [List.getElem?_eq_getElem hjl])
    rw [e1] at f1; cases f1
    have := f3 m v hv
    rw [hat_add rfl] at this
    have h4 := hat_cell hw this
    have e : (⟨bb, off, none⟩ : Addr).add (j * 14 + m) = ⟨bb, off + j * 14 + m, none⟩ := by unfold Addr.add; split <;> simp_all [Nat.add_assoc]
    rw [e] at h4
    exact h4)
  refine (callsIn_wide.1 h1).mono fun e w' ⟨he, hB⟩ => ⟨_, H, he, hB, Hp.le_refl _, fun b o v hv => ?_, fun b o h1 h2 => absurd h1 h2, ?_⟩
  · rw [hB.cell (p := ⟨b, o, none⟩) (World.block_lt_of_cell? w ⟨b, o, none⟩ (hw b o v hv))]; exact hw b o v hv
  · have e2 : ((upto (bwF n fun j => es[j]?.getD .zero) n).find? fun x => x.2.kind == 2).map (·.2) = es.reverse.find? fun e => e.kind == 2 := by
      rw [hn, ← upto_rev es, List.find?_map]
      rfl
    unfold confOf
    simp only
    rw [← e2]
    congr 2
    cases (upto (bwF n fun j => es[j]?.getD .zero) n).find? fun x => x.2.kind == 2 <;> rfl
end Go.Sx
