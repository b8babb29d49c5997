/- Blocks: a row of blocks, written in place; maps beside it. -/
import Derived.Test.YthjjkpkohhmgcaaXb
namespace Go.Proofs.Ythjjkpkohhmgcaa
open Go.RowKit Go.Proofs.YthjjkpkohhmgcaaW.PrintWords Go.Proofs.Ythjjkpkohhmgcaa.Blk Go.Maps Go.WideMaps

theorem infoBk : (Try.prog.info? 45).map (fun i => (i.zero, i.size, i.bytes)) = some (some (.agg #[.int .i64 0, .int .i64 0, .slice none 0 0, .bool false]), 4, 48) := by kernel_rfl
theorem kBM_open {w : World} {base : Nat} {ok : Nat → Prop} {x : Bk} {cs : List Value} (h : kB.M w base ok x cs) : ∃ v, cs = [.int .i64 x.lo, .int .i64 x.hi, v, .bool x.seen] ∧ kI.R 3 w base ok v x.goes := by
  obtain ⟨_, _, rfl, rfl, _, _, rfl, rfl, _, _, rfl, ⟨v, rfl, h1⟩, rfl⟩ := h
  exact ⟨v, rfl, h1⟩
theorem kBM_mk {w : World} {base : Nat} {ok : Nat → Prop} {x : Bk} {v : Value} (h : kI.R 3 w base ok v x.goes) : kB.M w base ok x [.int .i64 x.lo, .int .i64 x.hi, v, .bool x.seen] :=
  ⟨[_], _, rfl, rfl, [_], _, rfl, rfl, [_], _, rfl, ⟨v, rfl, h⟩, rfl⟩
theorem kBM_new (w : World) (base : Nat) (ok : Nat → Prop) (lo : Int) : kB.M w base ok ⟨lo, 0, [], false⟩ [.int .i64 lo, .int .i64 0, .slice none 0 0, .bool false] :=
  kBM_mk (x := ⟨lo, 0, [], false⟩) (Kd.R_nil _ _ _ _ _)
section
variable {w : World} {base : Nat} {ok : Nat → Prop} {g n cap : Nat} {xs : List Bk}
/-- Element b, as it lies. -/
theorem kB_elem (h : kB.R 45 w base ok (.slice (some ⟨g, 0, none⟩) n cap) xs) {b : Nat} (hb : b < n) : ∃ v, kI.R 3 w base (fun k => ok k ∧ k ≠ g) v (xs.getD b zBk).goes ∧ w.cell? ⟨g, b * 4, none⟩ = some (.int .i64 (xs.getD b zBk).lo) ∧ w.cell? ⟨g, b * 4 + 1, none⟩ = some (.int .i64 (xs.getD b zBk).hi) ∧
    w.cell? ⟨g, b * 4 + 2, none⟩ = some v ∧ w.cell? ⟨g, b * 4 + 3, none⟩ = some (.bool (xs.getD b zBk).seen) ∧ ∀ j, w.frozen? ⟨g, b * 4 + j, none⟩ = false := by
  obtain ⟨c, hl, hM, hc, hf⟩ := Kd.R_elem h zBk (b : Int) (by omega) (by omega)
  rw [Int.toNat_natCast] at hM hc hf
  obtain ⟨v, rfl, hv⟩ := kBM_open hM
  exact ⟨v, hv, hc 0 _ rfl, hc 1 _ rfl, hc 2 _ rfl, hc 3 _ rfl, hf⟩
theorem setCells_one (w : World) (g o : Nat) (u : Value) : w.setCells g o [u] = w.setCell ⟨g, o, none⟩ u := rfl
/-- One of its cells is written. -/
theorem kB_put (h : kB.R 45 w base ok (.slice (some ⟨g, 0, none⟩) n cap) xs) {b : Nat} (hb : b < n) {x : Bk} {v : Value} {okp : Nat → Prop} (hx : xs.getD b zBk = x) (hv : w.cell? ⟨g, b * 4 + 2, none⟩ = some v) {x' : Bk} {j : Nat} {u : Value} (hj : j < 4)
    (hM : kB.M w base okp x' (([.int .i64 x.lo, .int .i64 x.hi, v, .bool x.seen] : List Value).take j ++ [u] ++ ([.int .i64 x.lo, .int .i64 x.hi, v, .bool x.seen] : List Value).drop (j + 1))) (hokp : ∀ k, okp k → ok k ∧ k ≠ g) :
    kB.R 45 (w.setCell ⟨g, b * 4 + j, none⟩ u) base ok (.slice (some ⟨g, 0, none⟩) n cap) (xs.set b x') ∧ w.grownBy (w.setCell ⟨g, b * 4 + j, none⟩ u) (some g) := by
  obtain ⟨c, hl, hM0, hc, hf⟩ := Kd.R_elem h zBk (b : Int) (by omega) (by omega)
  rw [Int.toNat_natCast] at hM0 hc
  obtain ⟨v0, rfl, hv0⟩ := kBM_open hM0
  have := (hc 2 _ rfl).symm.trans hv
  simp only [Option.some.injEq] at this
  subst this
  rw [hx] at hl hc
  have := Kd.R_seg h (b : Int) (by omega) (by omega) (c := [.int .i64 x.lo, .int .i64 x.hi, v0, .bool x.seen]) (seg := [u]) (j := j) hl (by rw [Int.toNat_natCast]; exact hc) (by show j + 1 ≤ 4; omega) hM hokp
  rw [Int.toNat_natCast, setCells_one] at this
  exact this
/-- The end of a block is told. -/
theorem kB_to (h : kB.R 45 w base ok (.slice (some ⟨g, 0, none⟩) n cap) xs) {b : Nat} (hb : b < n) {x : Bk} (hx : xs.getD b zBk = x) (z : Int) :
    kB.R 45 (w.setCell ⟨g, b * 4 + 1, none⟩ (.int .i64 z)) base ok (.slice (some ⟨g, 0, none⟩) n cap) (xs.set b ⟨x.lo, z, x.goes, x.seen⟩) ∧ w.grownBy (w.setCell ⟨g, b * 4 + 1, none⟩ (.int .i64 z)) (some g) := by
  obtain ⟨v, hv, _, _, h2, _, _⟩ := kB_elem h hb
  rw [hx] at hv
  exact kB_put h hb hx h2 (by decide) (kBM_mk (x := ⟨x.lo, z, x.goes, x.seen⟩) hv) (fun k hk => hk)
/-- That it is reached. -/
theorem kB_seen (h : kB.R 45 w base ok (.slice (some ⟨g, 0, none⟩) n cap) xs) {b : Nat} (hb : b < n) {x : Bk} (hx : xs.getD b zBk = x) (z : Bool) :
    kB.R 45 (w.setCell ⟨g, b * 4 + 3, none⟩ (.bool z)) base ok (.slice (some ⟨g, 0, none⟩) n cap) (xs.set b ⟨x.lo, x.hi, x.goes, z⟩) ∧ w.grownBy (w.setCell ⟨g, b * 4 + 3, none⟩ (.bool z)) (some g) := by
  obtain ⟨v, hv, _, _, h2, _, _⟩ := kB_elem h hb
  rw [hx] at hv
  exact kB_put h hb hx h2 (by decide) (kBM_mk (x := ⟨x.lo, x.hi, x.goes, z⟩) hv) (fun k hk => hk)
/-- Where it goes on: a row of its own. -/
theorem kB_goes (h : kB.R 45 w base ok (.slice (some ⟨g, 0, none⟩) n cap) xs) {b : Nat} (hb : b < n) {x : Bk} (hx : xs.getD b zBk = x) {v : Value} {l : List Int} (hl : kI.R 3 w base (fun k => ok k ∧ k ≠ g) v l) :
    kB.R 45 (w.setCell ⟨g, b * 4 + 2, none⟩ v) base ok (.slice (some ⟨g, 0, none⟩) n cap) (xs.set b ⟨x.lo, x.hi, l, x.seen⟩) ∧ w.grownBy (w.setCell ⟨g, b * 4 + 2, none⟩ v) (some g) := by
  obtain ⟨v0, hv, _, _, h2, _, _⟩ := kB_elem h hb
  exact kB_put h hb hx h2 (by decide) (kBM_mk (x := ⟨x.lo, x.hi, l, x.seen⟩) hl) (fun k hk => hk)
end
/-- A row stays where a map (none of its blocks) is written. -/
theorem R_map {α : Type} {d : Kd α} {e : Nat} {w w1 : World} {base m : Nat} {v : Value} {xs : List α} (h : d.R e w base (fun k => k ≠ m) v xs) (hg : w.grownBy w1 (some m)) : d.R e w1 base (fun k => k ≠ m) v xs :=
  Kd.R_grown h hg (fun _ hk e => hk (by injection e))
/-- .. one that is younger. -/
theorem R_young {α : Type} {d : Kd α} {e : Nat} {w : World} {base : Nat} {ok : Nat → Prop} {v : Value} {xs : List α} (h : d.R e w base ok v xs) {m : Nat} (hm : w.heap.size ≤ m) : d.R e w base (fun k => ok k ∧ k ≠ m) v xs :=
  Kd.R_mono (Kd.R_bound h) (fun k hk => ⟨hk.1, by have := hk.2.2.1; omega⟩)
/-- 'map[int]int{0: 1}': the literal's entry. -/
theorem wpList_mi_ins {w : World} {m N : Nat} {f : Int → Option Int} {ops : Array Oper} {rest : List Oper} {o : Oper} {a : Act} {Q : Exit → Act → World → Prop}
    (hg : o.guard = none) (mo x v : Operand) (hop : o.op = Op.insert 67 mo x v) (hm : a.eval mo = .map (some m)) (h : MI w m N f) (hn : N < maxLen) {k z : Int} (hx : a.eval x = .int .i64 k) (hv : a.eval v = .int .i64 z) (hk : (Lit.int .i64 k).wf = true) (hz : (Lit.int .i64 z).wf = true)
    (hK : ∀ w', MI w' m (N + 1) (updI f k z) → w.grownBy w' (some m) → wpList Try.prog ops Q rest (a.put o.dst undef) w') :
    wpList Try.prog ops Q (o :: rest) a w := by
  obtain ⟨D, ho, hn2⟩ := h
  refine wpList_plain hg fun K' hK' => ?_
  obtain ⟨w', hrun, r1, r2⟩ := ho.update lawZ Try.underlying67 hn (keyOf_int_mk Try.underlying3 hk) (plainElem_int Try.underlying3 hz)
  unfold Oper.wp
  simp [execOp, hop, hm, hx, hv, hrun, Result.andThen]
  exact hK' _ _ (hK w' ⟨_, r1, hn2.put ho.isMap k z⟩ r2)
end Go.Proofs.Ythjjkpkohhmgcaa
