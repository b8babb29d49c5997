/- Blocks: maps at integer keys; their keys, sorted. -/
import Derived.Test.YthjjkpkohhmgcaaVj
import Derived.Test.YthjjkpkohhmgcaaShelfB
import Derived.Maps.OwnSet
import Derived.Maps.OwnOps
namespace Go.Proofs.Ythjjkpkohhmgcaa
open Go.RowKit Go.Proofs.YthjjkpkohhmgcaaW.PrintWords Go.Maps Go.WideMaps Go.Sort Go.Shelf

theorem lawZ : Keyed Try.prog 3 := int_keyed Try.underlying3
theorem zeroZ (w : World) : (zeroValue 3).run Try.prog w = .ok (.int .i64 0) w := by kernel_rfl
def updI (f : Int → Option Int) (k v : Int) : Int → Option Int := fun x => if x = k then some v else f x
theorem updI_same (f : Int → Option Int) (k v : Int) : updI f k v k = some v := by simp [updI]
theorem updI_ne (f : Int → Option Int) {k x : Int} (v : Int) (h : x ≠ k) : updI f k v x = f x := by simp [updI, h]
def MD (f : Int → Option Int) (D : DataW Unit) : Prop := ∀ k : Int, Maps.has D (.int .i64 k) = (f k).isSome ∧ ∀ v, f k = some v → D.atKey (.int .i64 k) (.lit (.int .i64 0)) = .lit (.int .i64 v)
/-- Block m is a map of at most N entries that holds f. -/
def MI (w : World) (m N : Nat) (f : Int → Option Int) : Prop := ∃ D : DataW Unit, w.ownsMap Try.prog 3 (plainElem Try.prog 3) m N D ∧ MD f D
section
variable {w w' : World} {m N : Nat} {f : Int → Option Int}
theorem MI.made (w : World) : MI (w.alloc (.map #[] 0)) w.heap.size 0 (fun _ => none) := ⟨_, World.ownsMap_made _ _ _ _, fun s => ⟨rfl, fun i h => by cases h⟩⟩
theorem MI.lt (h : MI w m N f) : m < w.heap.size := by obtain ⟨D, h, _⟩ := h; exact h.lt
theorem MI.mono (h : MI w m N f) {n : Nat} (hn : N ≤ n) : MI w m n f := by obtain ⟨D, h, hd⟩ := h; exact ⟨D, h.mono hn, hd⟩
theorem MI.move (h : MI w m N f) (hw : w'.heap[m]? = w.heap[m]?) : MI w' m N f := by
  obtain ⟨D, ⟨es, clock, hb, h⟩, hn⟩ := h
  exact ⟨D, ⟨es, clock, hw.trans hb, h⟩, hn⟩
theorem MI.below (h : MI w m N f) (hb : Below w.heap.size w w') : MI w' m N f := h.move (hb.block m h.lt)
theorem MI.notCells (h : MI w m N f) {g : Nat} {cs : Array Value} {t : TypeId} {fr : Nat × Nat} (hg : w.heap[g]? = some (.cells cs t fr)) : m ≠ g := by
  rintro rfl
  obtain ⟨D, ⟨es, clock, hb, _⟩, _⟩ := h
  rw [hb] at hg
  cases hg
theorem MI.look (h : MI w m N f) {k : Int} (hk : (Lit.int .i64 k).wf = true) : (Instr.lookup 67 (.map (some m)) (.int .i64 k) false).run Try.prog w = .ok (.int .i64 ((f k).getD 0)) w := by
  obtain ⟨D, ho, hn⟩ := h
  obtain ⟨c, hr, hat, _⟩ := ho.lookup_int lawZ Try.underlying67 Try.underlying3 (zeroZ w) (keyOf_int_mk Try.underlying3 hk)
  rw [hr]
  obtain ⟨h1, h2⟩ := hn k
  cases e : f k with
  | some v =>
    rw [h2 v e] at hat
    simp only [DataW.lit.injEq, Lit.int.injEq, true_and] at hat
    rw [← hat]; rfl
  | none =>
    rw [e] at h1
    have := atKey_of_not_has h1 (.lit (.int .i64 0))
    rw [this] at hat
    simp only [DataW.lit.injEq, Lit.int.injEq, true_and] at hat
    rw [← hat]; rfl
theorem MD.put {D : DataW Unit} (h : MD f D) (hD : IsMap D) (k v : Int) : MD (updI f k v) (D.put (.int .i64 k) (.lit (.int .i64 v))) := by
  have hk : WideAt.IsKeyLit (.int .i64 k) := by trivial
  intro x
  by_cases e : x = k
  · subst e
    rw [updI_same]
    exact ⟨has_put_same hD hk _, fun i hi => by cases hi; exact atKey_put_same hD hk _ _⟩
  · have hne : (Lit.int .i64 x) ≠ (Lit.int .i64 k) := fun h => e (by injection h)
    rw [updI_ne _ _ e]
    obtain ⟨h1, h2⟩ := h x
    rw [has_put_other hne, h1]
    exact ⟨rfl, fun j hj => by rw [atKey_put_other hne]; exact h2 j hj⟩
/-- 'm[k] = v' at the operation. -/
theorem wpList_mi {ops : Array Oper} {rest : List Oper} {o : Oper} {a : Act} {Q : Exit → Act → World → Prop}
    (hg : o.guard = none) (mo x v : Operand) (hop : o.op = Op.mapUpdate 67 mo x v) (hm : a.eval mo = .map (some m)) (h : MI w m N f) (hn : N < maxLen) {k z : Int} (hx : a.eval x = .int .i64 k) (hv : a.eval v = .int .i64 z) (hk : (Lit.int .i64 k).wf = true) (hz : (Lit.int .i64 z).wf = true)
    (hK : ∀ w', MI w' m (N + 1) (updI f k z) → w.grownBy w' (some m) → wpList Try.prog ops Q rest (a.put o.dst undef) w') :
    wpList Try.prog ops Q (o :: rest) a w := by
  obtain ⟨D, ho, hn2⟩ := h
  exact wpList_mapUpdate_own w hg mo x v 67 hop 3 3 lawZ Try.underlying67 _ m N D hm ho hn _ _ _ hx hv (keyOf_int_mk Try.underlying3 hk) _ [] (plainElem_int Try.underlying3 hz) (fun w' h1 h2 => hK w' ⟨_, h1, hn2.put ho.isMap k z⟩ h2)
/-- The keys of it. -/
theorem MD.keys {D : DataW Unit} (h : MD f D) (ho : w.ownsMap Try.prog 3 (plainElem Try.prog 3) m N D) : (intKeys D).Nodup ∧ (∀ x, x ∈ intKeys D ↔ (f x).isSome = true) ∧ (intKeys D).length ≤ N := by
  obtain ⟨es, rfl, hpw, _⟩ := ho.entries lawZ
  obtain ⟨es', hD', hko⟩ := ho.keysOf
  obtain rfl : es = es' := by simpa using hD'
  have hk : ∀ p ∈ es, ∃ x, p.1 = .int .i64 x := fun p hp => by
    obtain ⟨v, hv⟩ := hko p hp
    obtain ⟨x, _, hx, _⟩ := Maps.keyOf_i64 Try.underlying3 hv
    exact ⟨x, hx⟩
  refine ⟨?_, fun x => ?_, ?_⟩
  · show (es.map fun p => Go.intOf p.1).Nodup
    refine List.pairwise_map.2 (hpw.imp_of_mem fun {p q} hp' hq' hne e => hne ?_)
    obtain ⟨a, ha⟩ := hk p hp'
    obtain ⟨b, hb⟩ := hk q hq'
    rw [ha, hb] at e ⊢
    exact congrArg _ e
  · rw [← (h x).1, has_eq, List.any_eq_true]
    show x ∈ es.map (fun p => Go.intOf p.1) ↔ _
    rw [List.mem_map]
    constructor
    · rintro ⟨p, hp', rfl⟩
      obtain ⟨a, ha⟩ := hk p hp'
      exact ⟨p, hp', by rw [ha]; simp [Lit.sameKey, Go.intOf]⟩
    · rintro ⟨p, hp', hs⟩
      obtain ⟨a, ha⟩ := hk p hp'
      rw [ha] at hs
      exact ⟨p, hp', by rw [ha]; simpa [Lit.sameKey, Go.intOf, eq_comm] using hs⟩
  · have := ho.size_le
    show (es.map _).length ≤ N
    rw [List.length_map]
    exact this
end
theorem sorts_in (k : Nat) : AnyZI.SortsIn Try.prog Try.sortedA_ren Fence.wide k :=
  ⟨fun blk off cap ss W hH hblk hsz => callsIn_wide.2 (AnyM.slices_Sort_int Try.sortA blk off cap ss W hH hblk hsz),
   fun p cap W => callsIn_wide.2 (AnyM.slices_Sort_int_none Try.sortA p cap W)⟩
theorem keys_any (mb : Option Nat) (W : World) : Calls Try.prog 36 #[.map mb] W fun e w' => e = .returned (.func (.func 52) #[] #[.pointer (some ⟨W.heap.size, 0, none⟩)]) ∧ w' = W.alloc (.cells #[.map mb] 67) :=
  (callsIn_wide (n := 6)).1 (AnyZI.keys_in Try.keysA Fence.wide 6 trivial rfl mb W)
set_option maxHeartbeats 1000000 in
/-- The keys, sorted: a row of its own; none: nil. -/
theorem sortedKeys_any (b N : Nat) (f : Int → Option Int) (w : World) (h : MI w b N f) (hN : N ≤ 1000000000) (ks : List Int) (hs : ks.Pairwise (· < ·)) (hk : ∀ x, x ∈ ks ↔ (f x).isSome = true) :
    Calls Try.prog 35 #[.func (.func 52) #[] #[.pointer (some ⟨w.heap.size, 0, none⟩)]] (w.alloc (.cells #[.map (some b)] 67)) fun e w' => ∃ A c, e = .returned (.slice A ks.length c) ∧ kI.R 3 w' w.heap.size (fun _ => True) (.slice A ks.length c) ks ∧ Below w.heap.size w w' := by
  obtain ⟨D, hown, hd⟩ := h
  have hbl := hown.lt
  obtain ⟨hnd, hmem, hlen⟩ := hd.keys hown
  have hsz := hown.size_le
  have hseq : SeqGives Fence.wide 2 Try.prog 52 #[.pointer (some ⟨w.heap.size, 0, none⟩)] encZ (fun ss => ss.Perm (intKeys D)) (Maps.size D) (w.alloc (.cells #[.map (some b)] 67)) :=
    AnyZI.keys_gives (ρ := Try.keysA_ren) { Try.keysA with } Fence.wide _ trivial rfl (by omega) w.heap.size b N D _ (by simp) (by simp) (by
      obtain ⟨es, clock, hb, Ft, hs, hD⟩ := hown
      exact ⟨es, clock, (Below.heap_alloc _ _ b hbl).trans hb, Ft, hs, hD⟩)
  have cS := AnyZI.sorted_in Try.sortedA Fence.wide 5 trivial trivial trivial trivial rfl (by omega) (sorts_in _) (enters_of Try.func51 (by kernel_rfl) rfl) 52 #[.pointer (some ⟨w.heap.size, 0, none⟩)] trivial (enters_of Try.func52 (by kernel_rfl) rfl) _ _ (by unfold maxLen; omega) (by omega) _ hseq
  refine ((callsIn_wide (n := 5)).1 cS).mono ?_
  rintro e w' ⟨v, ss, rfl, hS, hrow, hnil, hb⟩
  have hp2 : ss.mergeSort leI = ks := by
    have p1 : ks.Perm ss := ((List.perm_ext_iff_of_nodup (hs.imp (fun h => Int.ne_of_lt h)) hnd).2 (fun x => (hk x).trans (hmem x).symm)).trans hS.symm
    rw [← mergeSort_of_perm_i p1]
    exact List.mergeSort_of_pairwise (hs.imp fun h => by simp only [leI, decide_eq_true_eq]; omega)
  have hl : ss.length = ks.length := by rw [← hp2, List.length_mergeSort]
  have hrow2 : w'.ownsRow w.heap.size 3 1 v ks.length (encs (Value.int .i64) ks) := by
    have h1 := ownsRow_base_a hrow (show w.heap.size ≤ (w.alloc (.cells #[.map (some b)] 67)).heap.size by simp)
    rw [hl] at h1
    change w'.ownsRow _ _ _ _ _ ((ss.mergeSort leI).map encZ) at h1
    rw [hp2] at h1
    exact h1
  have hR : kI.R 3 w' w.heap.size (fun _ => True) v ks := Kd.R_of_own (h1 := fun _ => rfl) hrow2 (fun _ _ => trivial)
  obtain ⟨A, c, rfl⟩ := Kd.R_slice hR
  exact ⟨A, c, rfl, hR, ((Below.refl _ w).alloc (Nat.le_refl _) _).trans (hb.mono (by simp))⟩
end Go.Proofs.Ythjjkpkohhmgcaa
