/- lists: all above each class. What stays, in plain words. -/
import Derived.Test.YtlihpmhnlooapaaDoorKz
namespace Go.Proofs.YtlihpmhnlooapaaDoor
open Go.RowKit Go.Proofs.YtlihpmhnlooapaaDoorW.PrintWords Go.Maps Go.WideMaps

theorem chain_nodup {N : Nat} {sup : Nat → Int} {fs : Nat → List Nat} {face : Nat → Bool} (G : Link.Good N sup fs face) {i : Nat} (hi : i < N) : (Link.chainL N sup i).Nodup := by
  refine G.up_ind (P := fun i => (Link.chainL N sup i).Nodup) ?_ ?_ i hi
  · rw [G.chain_zero]; simp
  · intro i h0 hi ih
    rw [G.chain_step h0 hi]
    have hs := G.sup_lt i h0 hi
    refine List.nodup_cons.2 ⟨fun hm => ?_, ih⟩
    have h1 := G.chain_reach (i := (sup i).toNat) (by omega) hm
    exact G.ring i hi ⟨_, .inl (by omega), h1⟩
theorem chain_fit {N : Nat} {sup : Nat → Int} {fs : Nat → List Nat} {face : Nat → Bool} (G : Link.Good N sup fs face) {i : Nat} (hi : i < N) : Fit N (Link.chainL N sup i) := ⟨chain_nodup G hi, fun _ hx => G.chain_lt hi hx⟩

/-- What joined has laid, seen later, when the set's block has been given what stands above. -/
theorem JSt.later {w0 : World} {p m : Nat} {cV : Value} {L : List Cl} {sV fV : Value} {w1 : World} (h : JSt w0 p m cV L sV (supsL L L.length) fV (facesL L L.length) w1) (h8 : 0 < L.length) (hl : L.length ≤ 72) (hok : ∀ x ∈ L, clOk x) :
    ∃ g cap gs cs gf cf, cV = .slice (some ⟨g, 0, none⟩) L.length cap ∧ sV = .slice (some ⟨gs, 0, none⟩) L.length cs ∧ fV = .slice (some ⟨gf, 0, none⟩) L.length cf ∧
      ∀ (w : World) (aV : Value), KpB p w1 w → w.heap[p]? = some (.cells #[cV, .map (some m), sV, fV, aV] 63 (0, 0)) → SV p g L.length cap m gs cs gf cf aV L (supsL L L.length) (facesL L L.length) w := by
  obtain ⟨g, cap, gs, cs, gf, cf, hc, hs, hf, hV⟩ := h.view h8 hl hok
  have l1 : (supsL L L.length).length = L.length := by simp [supsL]
  have l2 : (facesL L L.length).length = L.length := by simp [facesL]
  refine ⟨g, cap, gs, cs, gf, cf, hc, hs, hf, fun w aV hk hb => ?_⟩
  have r1 := KpB.row hk h.row h.blk (by decide)
  have r2 := KpB.row hk h.sup h.blk (by decide)
  have r3 := KpB.row hk h.faces h.blk (by decide)
  rw [hc] at r1
  rw [hs] at r2
  rw [hf] at r3
  have k1 := (Kd.R_reads' r1).2.2
  have k2 := (Kd.R_reads' r2).2.2
  have k3 := (Kd.R_reads' r3).2.2
  rw [l1] at k2
  rw [l2] at k3
  rw [hc, hs, hf] at hb
  exact ⟨hb, rfl, l1, l2, hl, k1, h.map.move (hk.block m h.map.lt (h.map.notCells h.blk)), k2, k3, hV.supR, hV.facesR⟩
/-- The set's block while all above each class is laid: w1 is the world ahead of it. -/
structure LSt (w0 w1 : World) (p b1 : Nat) (c0 c1 c2 c3 : Value) (A : List (List Int)) (aV : Value) (w : World) : Prop where
  below : Below w0.heap.size w0 w
  kp : KpB p w1 w
  blk : w.heap[p]? = some (.cells #[c0, c1, c2, c3, aV] 63 (0, 0))
  k1 : w.heap[b1]? = some (.cells #[.pointer (some ⟨p, 0, none⟩)] 23 (0, 0))
  row : kIs.R 31 w w1.heap.size (fun _ => True) aV A
section
variable {w0 w1 w w' : World} {p b1 : Nat} {c0 c1 c2 c3 aV : Value} {A : List (List Int)}
theorem LSt.step (h : LSt w0 w1 p b1 c0 c1 c2 c3 A aV w) (hb : Below w.heap.size w w') : LSt w0 w1 p b1 c0 c1 c2 c3 A aV w' :=
  ⟨below_weaken h.below h.below.size hb, h.kp.trans (KpB.of hb), blk_below h.blk hb, blk_below h.k1 hb, Kd.R_below h.row hb⟩
theorem LSt.put (h : LSt w0 w1 p b1 c0 c1 c2 c3 A aV w) (hp : w0.heap.size ≤ p) {v1 : Value} {x : List Int} (hR : kIs.R 31 w' w1.heap.size (fun _ => True) v1 (A ++ [x])) (hB : Below w0.heap.size w0 w') (hG : w.grownBy w' aV.ownBlock) :
    LSt w0 w1 p b1 c0 c1 c2 c3 (A ++ [x]) v1 (w'.setCell ⟨p, 4, none⟩ v1) ∧ w'.heap[p]? = some (.cells #[c0, c1, c2, c3, aV] 63 (0, 0)) ∧ w'.heap[b1]? = some (.cells #[.pointer (some ⟨p, 0, none⟩)] 23 (0, 0)) := by
  have kb := blk_grown h.blk hG (Kd.R_ne h.row h.blk (by decide))
  have k1 := blk_grown h.k1 hG (Kd.R_ne h.row h.k1 (by decide))
  have hkp : KpB p w1 w' := ⟨Nat.le_trans h.kp.size hG.size, fun k hk hne => (hG.block k (Nat.lt_of_lt_of_le hk h.kp.size) (fun e => by
    obtain ⟨inner, ho⟩ := Kd.R_own h.row
    rcases ho.2 with ⟨e2, _⟩ | ⟨g, cap, cur, e2, hg, _⟩
    · rw [e2] at e; simp [Value.ownBlock] at e
    · rw [e2] at e
      have : k = g := by simpa [Value.ownBlock] using e
      omega)).trans (h.kp.block k hk hne)⟩
  have n1 := blk_ne k1 kb (by decide)
  refine ⟨⟨hB.setCell hp _, hkp.trans ⟨by simp [World.setCell], fun k _ hk => Below.heap_setCell w' ⟨p, 4, none⟩ _ k hk⟩, blk_put kb 4 v1 rfl, blk_far k1 n1 _, Kd.R_set hR kb (by decide) 4 _⟩, kb, k1⟩
end
/-- All above the first k. -/
def aboves (N : Nat) (S : List Int) (F : List (List Int)) (k : Nat) : List (List Int) := (List.range k).map (fun i => ints (Link.aboveL N (supF S) (fsF F) i))
theorem aboves_succ (N : Nat) (S : List Int) (F : List (List Int)) (k : Nat) : aboves N S F (k + 1) = aboves N S F k ++ [ints (Link.aboveL N (supF S) (fsF F) k)] := by simp [aboves, List.range_succ]
end Go.Proofs.YtlihpmhnlooapaaDoor
