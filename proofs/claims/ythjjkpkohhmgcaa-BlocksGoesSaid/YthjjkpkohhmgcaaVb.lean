/- Blocks: what looking through holds in memory. -/
import Derived.Test.YthjjkpkohhmgcaaVa
import Derived.Test.YthjjkpkohhmgcaaPg
namespace Go.Proofs.Ythjjkpkohhmgcaa
open Go.RowKit Go.Proofs.YthjjkpkohhmgcaaW.PrintWords

def ints (l : List Nat) : List Int := l.map fun (x : Nat) => (x : Int)
def ways (l : List (Nat × Nat)) : List (Int × Int) := l.map fun (q : Nat × Nat) => ((q.1 : Int), (q.2 : Int))
theorem ints_len (l : List Nat) : (ints l).length = l.length := by simp [ints]
theorem ways_len (l : List (Nat × Nat)) : (ways l).length = l.length := by simp [ways]
def zBk : Bk := ⟨0, 0, [], false⟩
/-- Where the blocks go on, as numbers. -/
def gB (L : List Bk) (u : Nat) : List Nat := (L.getD u zBk).goes.map Int.toNat
/-- Blocks that may be: no block goes elsewhere, no more than K ways each. -/
structure May (K : Nat) (L : List Bk) : Prop where
  pos : 0 < L.length
  few : L.length ≤ 8192
  goes : ∀ b ∈ L, b.goes.length ≤ K ∧ ∀ k ∈ b.goes, 0 ≤ k ∧ k < (L.length : Int)
section
variable {K : Nat} {L : List Bk}
theorem May.at (h : May K L) {u : Nat} (hu : u < L.length) : (L.getD u zBk).goes.length ≤ K ∧ ∀ k ∈ (L.getD u zBk).goes, 0 ≤ k ∧ k < (L.length : Int) := by
  refine h.goes _ ?_
  rw [List.getD_eq_getElem?_getD, List.getElem?_eq_getElem hu]
  exact List.getElem_mem hu
theorem May.lt (h : May K L) : ∀ u, u < L.length → ∀ v ∈ gB L u, v < L.length := by
  intro u hu v hv
  obtain ⟨k, hk, rfl⟩ := List.mem_map.1 hv
  have := (h.at hu).2 k hk
  omega
theorem May.len (h : May K L) : ∀ u, u < L.length → (gB L u).length ≤ K := by
  intro u hu
  unfold gB
  rw [List.length_map]
  exact (h.at hu).1
theorem May.to (h : May K L) {u q : Nat} (hu : u < L.length) (hq : q < (L.getD u zBk).goes.length) : ∃ v, v < L.length ∧ (gB L u)[q]? = some v ∧ (L.getD u zBk).goes.getD q 0 = (v : Int) := by
  have hm := (h.at hu).2 _ (List.getElem_mem hq)
  refine ⟨((L.getD u zBk).goes[q]).toNat, by omega, ?_, ?_⟩
  · unfold gB
    rw [List.getElem?_map, List.getElem?_eq_getElem hq]
    rfl
  · rw [List.getD_eq_getElem?_getD, List.getElem?_eq_getElem hq]
    show (L.getD u zBk).goes[q] = _
    omega
end
/-- The row of how far each block is looked through. -/
def stRow (n : Nat) (f : Nat → Nat) : List Int := (List.range n).map fun i => ((f i : Nat) : Int)
theorem stRow_len (n : Nat) (f : Nat → Nat) : (stRow n f).length = n := by simp [stRow]
theorem stRow_get {n i : Nat} (f : Nat → Nat) (h : i < n) : (stRow n f).getD i 0 = (f i : Int) := by
  unfold stRow
  rw [List.getD_eq_getElem?_getD, List.getElem?_map, List.getElem?_range h]
  rfl
theorem stRow_set {n b : Nat} (f : Nat → Nat) (v : Nat) : (stRow n f).set b (v : Int) = stRow n (Look.upd f b v) := by
  apply List.ext_getElem?
  intro i
  by_cases hi : i < n
  · rw [List.getElem?_set]
    unfold stRow
    simp only [List.getElem?_map, List.getElem?_range hi, List.length_map, List.length_range, Option.map_some]
    by_cases e : b = i
    · subst e; simp [hi, Look.upd]
    · rw [if_neg e, Look.upd_ne _ _ (Ne.symm e)]
  · rw [List.getElem?_eq_none (by rw [List.length_set, stRow_len]; omega), List.getElem?_eq_none (by rw [stRow_len]; omega)]
theorem stRow_zero (n : Nat) : stRow n (fun _ => 0) = List.replicate n 0 := by
  apply List.ext_getElem?
  intro i
  unfold stRow
  by_cases hi : i < n
  · simp [hi]
  · rw [List.getElem?_eq_none (by simp; omega), List.getElem?_eq_none (by simp; omega)]
abbrev fnV (ps pl po pa : Nat) : Value := .func (.func 37) #[] #[.pointer (some ⟨ps, 0, none⟩), .pointer (some ⟨pl, 0, none⟩), .pointer (some ⟨po, 0, none⟩), .pointer (some ⟨pa, 0, none⟩)]
/-- The worlds of a look: ps, pl, pa hold what is captured, po what has come of it, ss how far each block is looked through. -/
structure VW (w0 : World) (A : Option Addr) (c n ps pl po pa ss : Nat) (s : Look.Lk) (w : World) : Prop where
  below : Below w0.heap.size w0 w
  ks : w.heap[ps]? = some (.cells #[.slice (some ⟨ss, 0, none⟩) n n] 27 (0, 0))
  kl : w.heap[pl]? = some (.cells #[.slice A n c] 22 (0, 0))
  ka : w.heap[pa]? = some (.cells #[fnV ps pl po pa] 60 (0, 0))
  st : w.heap[ss]? = some (.cells ((stRow n s.st).map (Value.int .i64)).toArray 3 (0, 0))
  out : ∃ A1 c1 A2 c2, w.heap[po]? = some (.cells #[.slice A1 s.done.length c1, .slice A2 s.back.length c2] 54 (0, 0)) ∧ kI.R 3 w w0.heap.size (fun k => k ≠ ss) (.slice A1 s.done.length c1) (ints s.done) ∧ kW.R 36 w w0.heap.size (fun _ => True) (.slice A2 s.back.length c2) (ways s.back)
  bs : w0.heap.size ≤ ss
  bo : w0.heap.size ≤ po
section
variable {w0 w w1 : World} {A : Option Addr} {c n ps pl po pa ss : Nat} {s : Look.Lk}
theorem VW.step (h : VW w0 A c n ps pl po pa ss s w) (hb : Below w.heap.size w w1) : VW w0 A c n ps pl po pa ss s w1 := by
  obtain ⟨A1, c1, A2, c2, h1, h2, h3⟩ := h.out
  exact ⟨below_weaken h.below h.below.size hb, blk_below h.ks hb, blk_below h.kl hb, blk_below h.ka hb, blk_below h.st hb, ⟨A1, c1, A2, c2, blk_below h1 hb, Kd.R_below h2 hb, Kd.R_below h3 hb⟩, h.bs, h.bo⟩
theorem VW.stAt (h : VW w0 A c n ps pl po pa ss s w) {i : Nat} (hi : i < n) : w.cell? ⟨ss, i, none⟩ = some (.int .i64 (s.st i : Int)) := by
  rw [blk_cell h.st]
  simp [stRow, List.getElem?_range hi]
/-- How far a block is looked through is written. -/
theorem VW.mark (h : VW w0 A c n ps pl po pa ss s w) (b v : Nat) : VW w0 A c n ps pl po pa ss ⟨Look.upd s.st b v, s.done, s.back⟩ (w.setCell ⟨ss, b, none⟩ (.int .i64 (v : Int))) := by
  obtain ⟨A1, c1, A2, c2, h1, h2, h3⟩ := h.out
  have e : ((stRow n s.st).map (Value.int .i64)).toArray.setIfInBounds b (.int .i64 (v : Int)) = ((stRow n (Look.upd s.st b v)).map (Value.int .i64)).toArray := by
    rw [← stRow_set]
    simp
  refine ⟨h.below.setCell h.bs _, blk_far h.ks (blk_ne h.ks h.st (by decide)) _, blk_far h.kl (blk_ne h.kl h.st (by decide)) _, blk_far h.ka (blk_ne h.ka h.st (by decide)) _, blk_put h.st b _ e, ⟨A1, c1, A2, c2, blk_far h1 (blk_ne h1 h.st (by decide)) _, Kd.R_far h2 (fun k hk => hk) _, ?_⟩, h.bs, h.bo⟩
  exact Kd.R_set h3 h.st (by decide) _ _
/-- A block is done. -/
theorem VW.did (h : VW w0 A c n ps pl po pa ss s w) {v v1 : Value} (hv : kI.R 3 w w0.heap.size (fun k => k ≠ ss) v (ints s.done)) {bV : Value} (hp : w.heap[po]? = some (.cells #[v, bV] 54 (0, 0))) {b : Nat}
    (hR : kI.R 3 w1 w0.heap.size (fun k => k ≠ ss) v1 (ints s.done ++ [(b : Int)])) (hB : Below w0.heap.size w0 w1) (hG : w.grownBy w1 v.ownBlock) :
    w1.heap[po]? = some (.cells #[v, bV] 54 (0, 0)) ∧ VW w0 A c n ps pl po pa ss ⟨s.st, s.done ++ [b], s.back⟩ (w1.setCell ⟨po, 0, none⟩ v1) := by
  obtain ⟨A1, c1, A2, c2, h1, h2, h3⟩ := h.out
  rw [hp] at h1
  injection h1 with h1
  injection h1 with h1 _ _
  have hbV : bV = .slice A2 s.back.length c2 := by
    have := congrArg (fun a : Array Value => a[1]?) h1
    simpa using this
  have hss : some ss ≠ v.ownBlock := fun e => (hv.1 ss e.symm) rfl
  have k0 := blk_grown hp hG (Kd.R_ne hv hp (by decide))
  have k1 := blk_grown h.ks hG (Kd.R_ne hv h.ks (by decide))
  have k2 := blk_grown h.kl hG (Kd.R_ne hv h.kl (by decide))
  have k3 := blk_grown h.ka hG (Kd.R_ne hv h.ka (by decide))
  have k4 := blk_grown h.st hG hss
  refine ⟨k0, ?_⟩
  have he : ints (s.done ++ [b]) = ints s.done ++ [(b : Int)] := by simp [ints]
  rw [← he] at hR
  obtain ⟨A3, c3, rfl⟩ := Kd.R_slice hR
  rw [ints_len] at hR ⊢
  refine ⟨hB.setCell h.bo _, blk_far k1 (blk_ne k1 k0 (by decide)) _, blk_far k2 (blk_ne k2 k0 (by decide)) _, blk_far k3 (blk_ne k3 k0 (by decide)) _, blk_far k4 (blk_ne k4 k0 (by decide)) _, ⟨A3, c3, A2, c2, blk_put k0 0 _ (by rw [hbV]; rfl), ?_, ?_⟩, h.bs, h.bo⟩
  · exact Kd.R_set hR k0 (by decide) _ _
  · refine Kd.R_set (Kd.R_over' h3 (Kd.R_typed hv) (by decide) hG) k0 (by decide) _ _
/-- A way back is told. -/
theorem VW.led (h : VW w0 A c n ps pl po pa ss s w) {v v1 : Value} (hv : kW.R 36 w w0.heap.size (fun _ => True) v (ways s.back)) {dV : Value} (hp : w.heap[po]? = some (.cells #[dV, v] 54 (0, 0))) {b tq : Nat}
    (hR : kW.R 36 w1 w0.heap.size (fun _ => True) v1 (ways s.back ++ [((b : Int), (tq : Int))])) (hB : Below w0.heap.size w0 w1) (hG : w.grownBy w1 v.ownBlock) :
    w1.heap[po]? = some (.cells #[dV, v] 54 (0, 0)) ∧ VW w0 A c n ps pl po pa ss ⟨s.st, s.done, s.back ++ [(b, tq)]⟩ (w1.setCell ⟨po, 1, none⟩ v1) := by
  obtain ⟨A1, c1, A2, c2, h1, h2, h3⟩ := h.out
  rw [hp] at h1
  injection h1 with h1
  injection h1 with h1 _ _
  have hdV : dV = .slice A1 s.done.length c1 := by
    have := congrArg (fun a : Array Value => a[0]?) h1
    simpa using this
  have k0 := blk_grown hp hG (Kd.R_ne hv hp (by decide))
  have k1 := blk_grown h.ks hG (Kd.R_ne hv h.ks (by decide))
  have k2 := blk_grown h.kl hG (Kd.R_ne hv h.kl (by decide))
  have k3 := blk_grown h.ka hG (Kd.R_ne hv h.ka (by decide))
  have k4 := blk_grown h.st hG (Kd.R_ne hv h.st (by decide))
  refine ⟨k0, ?_⟩
  have he : ways (s.back ++ [(b, tq)]) = ways s.back ++ [((b : Int), (tq : Int))] := by simp [ways]
  rw [← he] at hR
  obtain ⟨A3, c3, rfl⟩ := Kd.R_slice hR
  rw [ways_len] at hR ⊢
  refine ⟨hB.setCell h.bo _, blk_far k1 (blk_ne k1 k0 (by decide)) _, blk_far k2 (blk_ne k2 k0 (by decide)) _, blk_far k3 (blk_ne k3 k0 (by decide)) _, blk_far k4 (blk_ne k4 k0 (by decide)) _, ⟨A1, c1, A3, c3, blk_put k0 1 _ (by rw [hdV]; rfl), ?_, ?_⟩, h.bs, h.bo⟩
  · refine Kd.R_set (Kd.R_over' h2 (Kd.R_typed hv) (by decide) hG) k0 (by decide) _ _
  · exact Kd.R_set hR k0 (by decide) _ _
end
end Go.Proofs.Ythjjkpkohhmgcaa
