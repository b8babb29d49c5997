/- Blocks: ways, sorted: slices.SortFunc at pairs; numbers, turned round. -/
import Derived.Test.YthjjkpkohhmgcaaVf
import Derived.Test.YthjjkpkohhmgcaaShelfB
namespace Go.Proofs.Ythjjkpkohhmgcaa
open Go.RowKit Go.Proofs.YthjjkpkohhmgcaaW.PrintWords

def encW (x : Int × Int) : List Value := [.int .i64 x.1, .int .i64 x.2]
/-- A row laid, and what is new. -/
theorem putG {α : Type} [Inhabited α] (enc : α → Value) (w : World) (g n : Nat) (d : Array α) (os : Array Obj) (hgl : g < w.heap.size) :
    Below g w (Sort.grow (Sort.putRow enc (Sort.ahead w n) g 0 d) os) ∧ w.heap.size ≤ (Sort.grow (Sort.putRow enc (Sort.ahead w n) g 0 d) os).heap.size ∧ (∀ i, i < w.heap.size → i ≠ g → (Sort.grow (Sort.putRow enc (Sort.ahead w n) g 0 d) os).heap[i]? = w.heap[i]?) ∧
      ∀ cur e fr, w.heap[g]? = some (.cells cur e fr) → (Sort.grow (Sort.putRow enc (Sort.ahead w n) g 0 d) os).heap[g]? = some (.cells (Sort.putCells enc 0 d cur) e fr) := by
  have key : ∀ i, i < w.heap.size → i ≠ g → (Sort.grow (Sort.putRow enc (Sort.ahead w n) g 0 d) os).heap[i]? = w.heap[i]? := by
    intro i hi hne
    rw [Sort.heap_grow_old _ _ (by simpa using hi)]
    simp [Sort.putRow, Sort.mapBlock, Sort.ahead, Array.getElem?_modify, Ne.symm hne]
  refine ⟨⟨rfl, rfl, rfl, by simp, fun i hi => ?_⟩, by simp, key, fun cur e fr hb => ?_⟩
  · exact key i (by omega) (by omega)
  · have hg : g < w.heap.size := (Array.getElem?_eq_some_iff.1 hb).1
    rw [Sort.heap_grow_old _ _ (by simpa using hg)]
    simp [Sort.putRow, Sort.mapBlock, Sort.ahead, Array.getElem?_modify, hb, Sort.onCells]
set_option maxHeartbeats 4000000 in
/-- The closure that compares two ways: two blocks are laid. -/
theorem cmp_any (x y : Int × Int) (W : World) : Calls Try.prog 40 #[.agg #[.int .i64 x.1, .int .i64 x.2], .agg #[.int .i64 y.1, .int .i64 y.2]] W fun e w' => e = .returned (.int .i64 (cmpW x y)) ∧ ∃ q os', w' = Sort.grow (W.drewN q) os' := by
  have HC := hid (fun (g1 g2 : Nat) (w : World) h1 h2 h3 h4 => compare2_any g1 g2 x y w h1 h2 h3 h4)
  obtain ⟨x1, x2⟩ := x
  obtain ⟨y1, y2⟩ := y
  generalize cmpW (x1, x2) (y1, y2) = r at *
  have k1 := blk_alloc (blk_new W (.cells #[.int .i64 x1, .int .i64 x2] 36)) (.cells #[.int .i64 y1, .int .i64 y2] 36)
  have k2 := blk_new (W.alloc (.cells #[.int .i64 x1, .int .i64 x2] 36)) (.cells #[.int .i64 y1, .int .i64 y2] 36)
  simp only [World.size_alloc] at k2
  have K1 := hid k1
  have K2 := hid k2
  clear k1 k2
  go_enter Try.func40, Try.ntmps40
  go_upto_region 1 with fail
  go_quiet ((go_at_call 41; exact Calls.quiet_of_same (HC.out _ _ _ (blk_cell (blk_drewN K1.out _) 0) (blk_cell (blk_drewN K1.out _) 1) (blk_cell (blk_drewN K2.out _) 0) (blk_cell (blk_drewN K2.out _) 1))))
  go_wp2_with fail
  go_ret
  exact ⟨rfl, nq, _, by rw [Sort.alloc_eq_grow, Sort.alloc_eq_grow, Sort.grow_grow]; rfl⟩
def LexW (x y : Int × Int) : Prop := x.1 < y.1 ∨ (x.1 = y.1 ∧ x.2 < y.2)
theorem cmpW_lt (x y : Int × Int) : cmpW x y < 0 ↔ LexW x y := by
  unfold cmpW LexW
  by_cases h : Lib.compareInt x.1 y.1 = 0
  · rw [if_pos h, compareInt_lt]
    rw [compareInt_zero] at h
    omega
  · rw [if_neg h, compareInt_lt]
    rw [compareInt_zero] at h
    omega
theorem ltW (x y : Int × Int) : Go.Proofs.ltOf cmpW x y = true ↔ LexW x y := by
  rw [← cmpW_lt]
  simp [Go.Proofs.ltOf]
theorem ltW_false (x y : Int × Int) : Go.Proofs.ltOf cmpW x y = false ↔ ¬ LexW x y := by
  rw [← ltW]; simp
theorem swoW : Sort.SWO (Go.Proofs.ltOf cmpW) where
  irrefl x := by rw [ltW_false]; unfold LexW; omega
  trans x y z h1 h2 := by rw [ltW] at *; unfold LexW at *; omega
  ntrans x y z h1 h2 := by rw [ltW_false] at *; unfold LexW at *; omega
theorem encW_len (x : Int × Int) : (encW x).length = 2 := rfl
theorem H2.holds {g : Nat} {d : Array (Int × Int)} {w : World} (h : H2 g d w) : Sort.HoldsK encW 2 w g 0 d := by
  intro j hj
  rw [Sort.size_flatK] at hj
  rw [Sort.get_flatK _ _ _ _ hj]
  have hb : j / 2 < d.size := by omega
  refine ⟨?_, h.fr _⟩
  rcases (by omega : j % 2 = 0 ∨ j % 2 = 1) with e | e
  · rw [e, show 0 + j = j / 2 * 2 by omega, h.a _ hb]; rfl
  · rw [e, show 0 + j = j / 2 * 2 + 1 by omega, h.b _ hb]; rfl
theorem H2.of {g : Nat} {d : Array (Int × Int)} {w : World} (h : Sort.HoldsK encW 2 w g 0 d) (hb : ∃ cs, w.heap[g]? = some (.cells cs 36 (0, 0))) : H2 g d w := by
  refine ⟨fun i hi => ?_, fun i hi => ?_, hb⟩
  · have := (Sort.HoldsK.cell h hi (c := 0) (by decide)).1
    rw [show 0 + i * 2 + 0 = i * 2 by omega] at this
    exact this
  · have := (Sort.HoldsK.cell h hi (c := 1) (by decide)).1
    rw [show 0 + i * 2 + 1 = i * 2 + 1 by omega] at this
    exact this
theorem sortW_any (g cap : Nat) (d : Array (Int × Int)) (w : World) (hW : H2 g d w) (hsz : d.size ≤ 1000000000) :
    Calls Try.prog 39 #[.slice (some ⟨g, 0, none⟩) d.size cap, .func (.func 40) #[] #[]] w fun e w' => e = .returned (.tuple #[]) ∧ ∃ d', Sort.PermIn 0 d.size d d' ∧ Sort.SortedIn (Go.Proofs.ltOf cmpW) 0 d.size d' ∧ SW2 g w d' w' := by
  have eg : ∀ args w, (callFunc 40 args).run Try.prog w = .ok (.enter 40 args) w := enters_of Try.func40 (by kernel_rfl) rfl
  have hcon := AnyQ.slices_SortFunc Try.sortW 2 Try.isAgg36 Try.sizeOf36 encW (fun _ => rfl) (fun x v hv => by simp [encW] at hv; rcases hv with rfl | rfl <;> rfl) cmpW swoW 40 #[] g 0 cap d w eg (fun _ _ _ _ x y => cmp_any x y _) hW.holds hW.lt (by omega)
  refine hcon.mono ?_
  rintro e w' ⟨rfl, d', n, os, hp, hs, rfl⟩
  refine ⟨rfl, d', hp, hs, ?_⟩
  obtain ⟨h1, h2, h3, h4⟩ := putG id w g n (Sort.flatK encW 2 d') os hW.lt
  refine ⟨h1, h2, h3, H2.of ?_ ?_⟩
  · exact Sort.holdsK_grow encW 2 _ os g 0 d' (by rw [Sort.size_putRowK]; exact hW.lt) (Sort.holdsK_putRowK encW 2 (Sort.ahead w n) g 0 d d' (Sort.holdsK_ahead encW 2 w n g 0 d hW.holds) hp.1)
  · obtain ⟨cs, hc⟩ := hW.blk
    exact ⟨_, h4 cs _ _ hc⟩
/-- Sorted, each once. -/
theorem once_law {d d' : Array (Int × Int)} (hp : Sort.PermIn 0 d.size d d') (hs : Sort.SortedIn (Go.Proofs.ltOf cmpW) 0 d.size d') : (∀ q, q ∈ Lib.compactUpTo d' d'.size ↔ q ∈ d.toList) ∧ (Lib.compactUpTo d' d'.size).Pairwise LexW := by
  have hsz := hp.1
  have hperm : d'.toList.Perm d.toList := by
    have := hp.2.2
    rwa [Array.extract_eq_self_of_le (by omega), Array.extract_eq_self_of_le (by omega)] at this
  have hmem : ∀ m, m ≤ d'.size → ∀ q, q ∈ Lib.compactUpTo d' m ↔ ∃ j, j < m ∧ d'[j]! = q := by
    intro m
    induction m with
    | zero => intro _ q; simp [Lib.compactUpTo]
    | succ m ih =>
      intro hm q
      rw [Lib.compactUpTo_succ, List.mem_append, ih (by omega)]
      constructor
      · rintro (⟨j, hj, e⟩ | h)
        · exact ⟨j, by omega, e⟩
        · split at h
          · simp only [List.mem_singleton] at h
            exact ⟨m, by omega, h.symm⟩
          · cases h
      · rintro ⟨j, hj, e⟩
        rcases (by omega : j < m ∨ j = m) with h | rfl
        · exact .inl ⟨j, h, e⟩
        · cases hk : Lib.keeps d' j with
          | true => right; simp [e]
          | false =>
            left
            have : ¬ (j = 0 ∨ d'[j]! ≠ d'[j - 1]!) := by simpa [Lib.keeps] using hk
            have h0 : j ≠ 0 := fun h => this (.inl h)
            have h1 : d'[j]! = d'[j - 1]! := Classical.byContradiction fun h => this (.inr h)
            exact ⟨j - 1, by omega, by rw [← h1]; exact e⟩
  refine ⟨fun q => ?_, ?_⟩
  · rw [hmem _ (Nat.le_refl _), ← hperm.mem_iff]
    constructor
    · rintro ⟨j, hj, rfl⟩
      rw [getElem!_pos d' j hj]
      exact Array.getElem_mem_toList hj
    · intro hq
      obtain ⟨j, hj, rfl⟩ := List.getElem_of_mem hq
      rw [Array.length_toList] at hj
      exact ⟨j, hj, by rw [getElem!_pos d' j hj]; simp⟩
  · have key : ∀ m, m ≤ d'.size → (Lib.compactUpTo d' m).Pairwise LexW := by
      intro m
      induction m with
      | zero => intro _; simp [Lib.compactUpTo]
      | succ m ih =>
        intro hm
        rw [Lib.compactUpTo_succ, List.pairwise_append]
        refine ⟨ih (by omega), by split <;> simp, fun a ha b hb => ?_⟩
        split at hb
        · rename_i hk
          simp only [List.mem_singleton] at hb
          subst hb
          obtain ⟨j, hj, rfl⟩ := (hmem m (by omega) a).1 ha
          have hm0 : m ≠ 0 := by omega
          have hne : d'[m]! ≠ d'[m - 1]! := by
            have : m = 0 ∨ d'[m]! ≠ d'[m - 1]! := by simpa [Lib.keeps] using hk
            exact this.resolve_left hm0
          have n1 : ¬ LexW d'[m]! d'[m - 1]! := (ltW_false _ _).1 (hs (m - 1) m (by omega) (by omega) (by omega))
          have l1 : LexW d'[m - 1]! d'[m]! := by
            unfold LexW at n1 ⊢
            apply Classical.byContradiction
            intro h
            apply hne
            apply Prod.ext <;> omega
          rcases (by omega : j < m - 1 ∨ j = m - 1) with h | rfl
          · have n2 : ¬ LexW d'[m - 1]! d'[j]! := (ltW_false _ _).1 (hs j (m - 1) (by omega) (by omega) (by omega))
            unfold LexW at *
            omega
          · exact l1
        · cases hb
    exact key _ (Nat.le_refl _)
end Go.Proofs.Ythjjkpkohhmgcaa
