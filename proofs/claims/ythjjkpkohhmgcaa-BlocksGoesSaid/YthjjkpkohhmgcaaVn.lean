/- Blocks: Above. -/
import Derived.Test.YthjjkpkohhmgcaaVm
namespace Go.Proofs.Ythjjkpkohhmgcaa
open Go.RowKit Go.Proofs.YthjjkpkohhmgcaaW.PrintWords Go.Proofs.Ythjjkpkohhmgcaa.Dom

set_option maxRecDepth 100000 in
theorem mk_lists (N : Nat) (hN : N ≤ 8192) (W : World) : (Instr.makeSlice 40 (.int .i64 (N : Int)) (.int .i64 (N : Int))).run Try.prog W = .ok (.slice (some ⟨W.heap.size, 0, none⟩) N N) (W.alloc (.cells (List.replicate N (.slice none 0 0)).toArray 27)) := by
  obtain ⟨i0, hi, hzz⟩ := Option.map_eq_some_iff.1 infoInts
  simp only [Prod.mk.injEq] at hzz
  obtain ⟨hz0, hz1, hz2⟩ := hzz
  have hr := run_make (P := Try.prog) W 40 27 i0 (.slice none 0 0) (by exact Try.underlying40) hi hz0 .i64 .i64 (N : Int) (N : Int) (by omega) (by omega) (by rw [hz2]; omega) (by omega)
  simp only [Int.toNat_natCast] at hr
  rw [hz1, Nat.mul_one] at hr
  rw [hr]
  have : madeCells (Value.slice none 0 0).cells N = (List.replicate N (.slice none 0 0)).toArray := by
    apply Array.toList_inj.1
    rw [show (Value.slice none 0 0).cells = #[.slice none 0 0] from rfl, toList_madeCells_one]
  rw [this]
/-- Those that go to t, of some in order: once for each way. -/
def comers (L : List Bk) (l : List Nat) (t : Nat) : List Nat := l.flatMap fun b => ((gB L b).filter (· == t)).map fun _ => b
theorem mem_comers {L : List Bk} {l : List Nat} {t p : Nat} : p ∈ comers L l t ↔ p ∈ l ∧ t ∈ gB L p := by
  unfold comers
  rw [List.mem_flatMap]
  constructor
  · rintro ⟨b, hb, h⟩
    obtain ⟨x, hx, rfl⟩ := List.mem_map.1 h
    obtain ⟨h1, h2⟩ := List.mem_filter.1 hx
    have : x = t := by simpa using h2
    subst this
    exact ⟨hb, h1⟩
  · rintro ⟨h1, h2⟩
    exact ⟨p, h1, List.mem_map.2 ⟨t, List.mem_filter.2 ⟨h2, by simp⟩, rfl⟩⟩
/-- Within block b, q of its ways looked at. -/
def comersAt (L : List Bk) (l : List Nat) (b q t : Nat) : List Nat := comers L l t ++ (((gB L b).take q).filter (· == t)).map fun _ => b
theorem comersAt_zero (L : List Bk) (l : List Nat) (b : Nat) : comersAt L l b 0 = comers L l := by
  funext t; simp [comersAt]
theorem comersAt_end (L : List Bk) (l : List Nat) (b : Nat) : comersAt L l b (gB L b).length = comers L (l ++ [b]) := by
  funext t; simp [comersAt, comers]
theorem comersAt_step {L : List Bk} {l : List Nat} {b q v : Nat} (h : (gB L b)[q]? = some v) : comersAt L l b (q + 1) = updF (comersAt L l b q) v (comersAt L l b q v ++ [b]) := by
  funext t
  unfold comersAt updF
  rw [List.take_add_one, h]
  by_cases e : t = v
  · subst e; simp
  · simp [e, Ne.symm e]
/-- The places of the first q in order; 0 elsewhere. -/
def placeF (l : List Nat) (q x : Nat) : Nat := if x ∈ l.take q then l.idxOf x else 0
theorem placeF_zero (l : List Nat) : placeF l 0 = fun _ => 0 := by funext x; simp [placeF]
theorem placeF_step {l : List Nat} (hn : l.Nodup) {q b : Nat} (h : l[q]? = some b) : placeF l (q + 1) = Look.upd (placeF l q) b q := by
  funext x
  obtain ⟨hq, e⟩ := List.getElem?_eq_some_iff.1 h
  have hi : l.idxOf b = q := by rw [← e]; exact hn.idxOf_getElem q hq
  unfold placeF Look.upd
  rw [List.take_add_one, h]
  by_cases hx : x = b
  · subst hx; simp [hi]
  · simp [hx]
theorem placeF_all {l : List Nat} {x : Nat} (h : x ∈ l) : placeF l l.length x = l.idxOf x := by simp [placeF, h]
theorem comers_len {L : List Bk} (hM : May 20000 L) : ∀ (l : List Nat) (t : Nat), (∀ b ∈ l, b < L.length) → (comers L l t).length ≤ l.length * 20000 := by
  intro l t
  induction l with
  | nil => intro _; simp [comers]
  | cons a l ih =>
    intro h
    have h1 := ih (fun b hb => h b (List.mem_cons_of_mem _ hb))
    have h2 := hM.len a (h a List.mem_cons_self)
    have h3 := List.length_filter_le (fun x => x == t) (gB L a)
    have : comers L (a :: l) t = ((gB L a).filter (· == t)).map (fun _ => a) ++ comers L l t := by simp [comers]
    rw [this, List.length_append, List.length_map, List.length_cons]
    omega
theorem comersAt_len {L : List Bk} (hM : May 20000 L) (l : List Nat) (b q t : Nat) (h : ∀ b ∈ l, b < L.length) : (comersAt L l b q t).length ≤ l.length * 20000 + q := by
  have h1 := comers_len hM l t h
  have h2 := List.length_filter_le (fun x => x == t) ((gB L b).take q)
  have h3 : ((gB L b).take q).length ≤ q := by rw [List.length_take]; omega
  unfold comersAt
  rw [List.length_append, List.length_map]
  omega
theorem nodup_len (N : Nat) : ∀ l : List Nat, l.Nodup → (∀ x ∈ l, x < N) → l.length ≤ N := by
  induction N with
  | zero =>
    intro l _ h
    cases l with
    | nil => exact Nat.le_refl _
    | cons a l => exact absurd (h a List.mem_cons_self) (by omega)
  | succ N ih =>
    intro l hd h
    by_cases hm : N ∈ l
    · have := ih (l.erase N) (hd.erase N) (fun x hx => by
        have h1 := (hd.mem_erase_iff).1 hx
        have := h x h1.2
        omega)
      rw [List.length_erase_of_mem hm] at this
      omega
    · have := ih l hd (fun x hx => by
        have h1 := h x hx
        have : x ≠ N := fun e => hm (e ▸ hx)
        omega)
      omega
end Go.Proofs.Ythjjkpkohhmgcaa
