/- Blocks: the chapter's code: works. -/
import Derived.Test.YthjjkpkohhmgcaaYa
import Derived.Test.YthjjkpkohhmgcaaPi
namespace Go.Proofs.Ythjjkpkohhmgcaa
open Go.RowKit Go.Proofs.YthjjkpkohhmgcaaW.PrintWords Go.Proofs.Ythjjkpkohhmgcaa.Blk Go.Proofs.Ythjjkpkohhmgcaa.Dom

/-- Lists of lists, from what their cells hold. -/
theorem kIs_lit {w : World} {g : Nat} {cs : List Value} {ls : List (List Int)} (hg : w.heap[g]? = some (.cells cs.toArray 27 (0, 0))) (hl : cs.length = ls.length) (hn : ls.length ≤ 9223372036854775807) (h : ∀ (i : Nat) (v : Value) (l : List Int), cs[i]? = some v → ls[i]? = some l → ∃ (A : Option Addr) (c : Nat), v = Value.slice A l.length c ∧ l.length ≤ c ∧ kI.C w A l.length l) : kIs.C w (some ⟨g, 0, none⟩) ls.length ls := by
  refine C_reps (d := kIs) hg ⟨by rw [hl]; exact (Nat.mul_one _).symm, fun j p hp => ?_⟩ hn
  have hj := (List.getElem?_eq_some_iff.1 hp).1
  obtain ⟨v, hv⟩ : ∃ v, cs[j]? = some v := ⟨_, List.getElem?_eq_getElem (by omega)⟩
  obtain ⟨A, c, rfl, h1, h2⟩ := h j v p hv hp
  have e : (cs.drop (j * kIs.sz)).take kIs.sz = [.slice A p.length c] := by
    show (cs.drop (j * 1)).take 1 = _
    obtain ⟨hj2, e2⟩ := List.getElem?_eq_some_iff.1 hv
    rw [Nat.mul_one, List.drop_eq_getElem_cons hj2, e2]
    rfl
  rw [e]
  exact ⟨A, c, rfl, h1, h2⟩
theorem C_none (w : World) : kI.C w none 0 [] := ⟨rfl, by simp, fun h => absurd h (by simp)⟩
theorem C_zero (w : World) (A : Option Addr) : kI.C w A 0 [] := ⟨rfl, by simp, fun h => absurd h (by simp)⟩
/-- Objects laid one behind the other. -/
theorem allocs_get (os : List Obj) (w : World) (i : Nat) (hi : i < os.length) : (os.foldl World.alloc w).heap[w.heap.size + i]? = os[i]? := by
  have key : ∀ (os : List Obj) (w : World) (k : Nat), k < w.heap.size → (os.foldl World.alloc w).heap[k]? = w.heap[k]? := by
    intro os
    induction os with
    | nil => intro w k _; rfl
    | cons o os ih =>
      intro w k hk
      rw [List.foldl_cons, ih _ _ (by rw [World.size_alloc]; omega)]
      exact Below.heap_alloc w o k hk
  induction os generalizing w i with
  | nil => simp at hi
  | cons o os ih =>
    rw [List.foldl_cons]
    cases i with
    | zero =>
      rw [Nat.add_zero, key _ _ _ (by rw [World.size_alloc]; omega)]
      exact blk_new w o
    | succ i =>
      have := ih (w.alloc o) i (by simpa using hi)
      rw [World.size_alloc, Nat.add_assoc, Nat.add_comm 1 i] at this
      rw [this]
      rfl
theorem allocs_below (os : List Obj) (w : World) : Below w.heap.size w (os.foldl World.alloc w) := by
  have key : ∀ (os : List Obj) (w0 w : World), Below w0.heap.size w0 w → Below w0.heap.size w0 (os.foldl World.alloc w) := by
    intro os
    induction os with
    | nil => intro w0 w h; exact h
    | cons o os ih => intro w0 w h; exact ih w0 _ (below_alloc h o)
  exact key os w w (Below.refl _ _)
abbrev wNext : List (List Int) := [[1], [2, 4], [3], [1], []]
abbrev wThrown : List (List Int) := [[], [], [4], [], []]
abbrev wL : List Bk := [⟨0, 1, [1], true⟩, ⟨1, 2, [2, 3], true⟩, ⟨2, 4, [1, 3], true⟩, ⟨4, 5, [], true⟩]
theorem w_code : codeE wNext wThrown = 0 := by decide +kernel
theorem w_blocks : blocksOf (codeOf wNext wThrown) = wL := by kernel_rfl
theorem w_many : many (codeOf wNext wThrown) = 4 := by kernel_rfl
theorem w_check : checkE wL = 0 := by decide +kernel
theorem w_done : (lookS wL).done = [3, 2, 1, 0] := by kernel_rfl
theorem w_back : (lookS wL).back = [(2, 1)] := by kernel_rfl
theorem w_up : (List.range 4).map (upC (gB wL) 4 (lookS wL)) = [none, some 0, some 1, some 1] := by kernel_rfl
/-- The objects that the chapter's code is laid in. -/
def wObjs (B : Nat) : List Obj := [.cells #[.int .i64 1] 3, .cells #[.int .i64 2, .int .i64 4] 3, .cells #[.int .i64 3] 3, .cells #[.int .i64 1] 3, .cells #[] 3,
  .cells #[.slice (some ⟨B, 0, none⟩) 1 1, .slice (some ⟨B + 1, 0, none⟩) 2 2, .slice (some ⟨B + 1 + 1, 0, none⟩) 1 1, .slice (some ⟨B + 1 + 1 + 1, 0, none⟩) 1 1, .slice (some ⟨B + 1 + 1 + 1 + 1, 0, none⟩) 0 0] 27,
  .cells #[.int .i64 4] 3, .cells #[.slice none 0 0, .slice none 0 0, .slice (some ⟨B + 1 + 1 + 1 + 1 + 1 + 1, 0, none⟩) 1 1, .slice none 0 0, .slice none 0 0] 27]
set_option maxRecDepth 100000 in
theorem w_of (w : World) : Calls Try.prog 20 #[.slice (some ⟨w.heap.size + 1 + 1 + 1 + 1 + 1, 0, none⟩) 5 5, .slice (some ⟨w.heap.size + 1 + 1 + 1 + 1 + 1 + 1 + 1, 0, none⟩) 5 5] ((wObjs w.heap.size).foldl World.alloc w)
    fun e w' => ∃ A c, e = .returned (.tuple #[.slice A 4 c, .int .i64 0]) ∧ kB.C w' A 4 wL ∧ Below w.heap.size w w' := by
  have hb := allocs_below (wObjs w.heap.size) w
  have hg := fun i hi => allocs_get (wObjs w.heap.size) w i hi
  generalize (wObjs w.heap.size).foldl World.alloc w = W at *
  have c0 : kI.C W (some ⟨w.heap.size, 0, none⟩) 1 [1] := C_ints (xs := [1]) (hg 0 (by simp [wObjs])) (by decide)
  have c1 : kI.C W (some ⟨w.heap.size + 1, 0, none⟩) 2 [2, 4] := C_ints (xs := [2, 4]) (hg 1 (by simp [wObjs])) (by decide)
  have c2 : kI.C W (some ⟨w.heap.size + 1 + 1, 0, none⟩) 1 [3] := C_ints (xs := [3]) (hg 2 (by simp [wObjs])) (by decide)
  have c3 : kI.C W (some ⟨w.heap.size + 1 + 1 + 1, 0, none⟩) 1 [1] := C_ints (xs := [1]) (hg 3 (by simp [wObjs])) (by decide)
  have c4 : kI.C W (some ⟨w.heap.size + 1 + 1 + 1 + 1 + 1 + 1, 0, none⟩) 1 [4] := C_ints (xs := [4]) (hg 6 (by simp [wObjs])) (by decide)
  have d1 : kIs.C W (some ⟨w.heap.size + 1 + 1 + 1 + 1 + 1, 0, none⟩) 5 wNext := by
    refine kIs_lit (ls := wNext) (hg 5 (by simp [wObjs])) rfl (by decide) (fun i v l hv hl => ?_)
    match i, hv, hl with
    | 0, hv, hl => cases hv; cases hl; exact ⟨_, _, rfl, by decide, c0⟩
    | 1, hv, hl => cases hv; cases hl; exact ⟨_, _, rfl, by decide, c1⟩
    | 2, hv, hl => cases hv; cases hl; exact ⟨_, _, rfl, by decide, c2⟩
    | 3, hv, hl => cases hv; cases hl; exact ⟨_, _, rfl, by decide, c3⟩
    | 4, hv, hl => cases hv; cases hl; exact ⟨_, _, rfl, by decide, C_zero _ _⟩
    | i + 5, hv, hl => cases hl
  have d2 : kIs.C W (some ⟨w.heap.size + 1 + 1 + 1 + 1 + 1 + 1 + 1, 0, none⟩) 5 wThrown := by
    refine kIs_lit (ls := wThrown) (hg 7 (by simp [wObjs])) rfl (by decide) (fun i v l hv hl => ?_)
    match i, hv, hl with
    | 0, hv, hl => cases hv; cases hl; exact ⟨_, _, rfl, by decide, C_zero _ _⟩
    | 1, hv, hl => cases hv; cases hl; exact ⟨_, _, rfl, by decide, C_zero _ _⟩
    | 2, hv, hl => cases hv; cases hl; exact ⟨_, _, rfl, by decide, c4⟩
    | 3, hv, hl => cases hv; cases hl; exact ⟨_, _, rfl, by decide, C_zero _ _⟩
    | 4, hv, hl => cases hv; cases hl; exact ⟨_, _, rfl, by decide, C_zero _ _⟩
    | i + 5, hv, hl => cases hl
  refine (of_any _ _ 5 5 wNext wThrown W d1 d2 (by decide)).mono ?_
  rintro e w' ⟨hB, ⟨hz, _⟩ | ⟨_, A, c, rfl, hC⟩⟩
  · exact absurd w_code hz
  · rw [w_many, w_blocks] at hC
    rw [w_many]
    exact ⟨A, c, rfl, hC, below_step hb hB⟩
theorem w_order (A : Option Addr) (c : Nat) (w : World) (h : kB.C w A 4 wL) : Calls Try.prog 12 #[.slice A 4 c] w fun e w' => ∃ A1 c1, e = .returned (.tuple #[.slice A1 4 c1, .int .i64 0]) ∧ kI.C w' A1 4 [0, 1, 2, 3] ∧ Below w.heap.size w w' := by
  refine (order_any A c wL w h (by decide)).mono ?_
  rintro e w' ⟨hB, ⟨hz, _⟩ | ⟨_, A1, c1, rfl, hC⟩⟩
  · exact absurd w_check hz
  · rw [w_done] at hC ⊢
    exact ⟨A1, c1, rfl, hC, hB⟩
theorem lex_one {q : Int × Int} {bk : List (Int × Int)} (h : ∀ x, x ∈ bk ↔ x ∈ [q]) (hs : bk.Pairwise LexW) : bk = [q] := by
  match bk, h, hs with
  | [], h, _ => exact absurd ((h q).2 (by simp)) (by simp)
  | [a], h, _ => rw [show a = q by simpa using (h a).1 (by simp)]
  | a :: b :: l, h, hs =>
    have ea : a = q := by simpa using (h a).1 (by simp)
    have eb : b = q := by simpa using (h b).1 (by simp)
    have := (List.pairwise_cons.1 hs).1 b (by simp)
    rw [ea, eb] at this
    exfalso
    unfold LexW at this
    omega
theorem w_backs (A : Option Addr) (c : Nat) (w : World) (h : kB.C w A 4 wL) : Calls Try.prog 14 #[.slice A 4 c] w fun e w' => ∃ A1 c1, e = .returned (.tuple #[.slice A1 1 c1, .int .i64 0]) ∧ kW.C w' A1 1 [(2, 1)] ∧ Below w.heap.size w w' := by
  refine (back_any A c wL w h (by decide)).mono ?_
  rintro e w' ⟨hB, ⟨hz, _⟩ | ⟨_, A1, c1, bk, rfl, hC, hI⟩⟩
  · exact absurd w_check hz
  · have := lex_one (q := (2, 1)) (fun x => by rw [hI.mem, w_back]; rfl) hI.sorted
    subst this
    exact ⟨A1, c1, rfl, hC, hB⟩
/-- Above's row, in closed form. -/
def aboveR (L : List Bk) : List Int := (List.range L.length).map fun b => match upC (gB L) L.length (lookS L) b with | some o => (o : Int) | none => -1
theorem above_row {L : List Bk} {w : World} {e : Ending} {w' : World} (h : AbovePost L w e w') (hz : checkE L = 0) : ∃ g c, e = .returned (.tuple #[.slice (some ⟨g, 0, none⟩) L.length c, .int .i64 0]) ∧ CI g (aboveR L) w' ∧ Below w.heap.size w w' := by
  obtain ⟨hB, ⟨hz2, _⟩ | ⟨hM, g, c, up, t, rfl, hc, ⟨i, hI⟩, hf⟩⟩ := h
  · exact absurd hz hz2
  · refine ⟨g, c, rfl, fun j hj => ?_, hB⟩
    have hj' : j < L.length := by simpa [aboveR] using hj
    rw [hc j hj', up_closed hM.lt hM.pos t hI hf j]
    simp only [aboveR, List.getD_eq_getElem?_getD, List.getElem?_map, List.getElem?_range hj', Option.map_some, Option.getD_some]
    cases upC (gB L) L.length (lookS L) j <;> rfl
theorem w_above (A : Option Addr) (c : Nat) (w : World) (h : kB.C w A 4 wL) : Calls Try.prog 16 #[.slice A 4 c] w fun e w' => ∃ g c1, e = .returned (.tuple #[.slice (some ⟨g, 0, none⟩) 4 c1, .int .i64 0]) ∧ kI.C w' (some ⟨g, 0, none⟩) 4 [-1, 0, 1, 1] ∧ Below w.heap.size w w' := by
  refine (above_any A c wL w h (by decide)).mono ?_
  intro e w' hp
  obtain ⟨g, c1, rfl, hC, hB⟩ := above_row hp w_check
  have e : aboveR wL = [-1, 0, 1, 1] := by kernel_rfl
  rw [e] at hC
  exact ⟨g, c1, rfl, hC.c (by decide), hB⟩
end Go.Proofs.Ythjjkpkohhmgcaa
