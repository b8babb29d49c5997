/- descr.Type. -/
import Derived.Test.YtcaepnbamnicmaaDoorDf
namespace Go.Proofs.YtcaepnbamnicmaaDoor
open Go.RowKit Go.Proofs.YtcaepnbamnicmaaDoorW.PrintWords

/-- The type that a text tells. -/
def typeL (l : List UInt8) : Option Ty := match kindL l with
  | some (t, []) => some t
  | _ => none
def typeRes (l : List UInt8) : Value := match typeL l with
  | some t => .tuple #[.agg #[.int .i64 t.k, .string t.n], .int .i64 0]
  | none => .tuple #[.agg #[.int .i64 0, .string ⟨#[]⟩], .int .i64 50]
theorem tx_empty (l : List UInt8) : (tx l).toList.isEmpty = l.isEmpty := by rw [ByteArray.toList_eq, tx_toList]

theorem KindAns.no {l : List UInt8} {g : Nat} {w : World} {e : Ending} {w' : World} (h : kindL l = none) (k : KindAns l g w e w') : ∃ t : Ty, e = .returned (.tuple #[.agg #[.int .i64 t.k, .string t.n], .bool false]) ∧ Kp g w w' := by
  unfold KindAns at k
  rw [h] at k
  obtain ⟨⟨t, h1⟩, h2⟩ := k
  exact ⟨t, h1, h2⟩
theorem KindAns.yes {l : List UInt8} {g : Nat} {w : World} {e : Ending} {w' : World} {t : Ty} {b : List UInt8} (h : kindL l = some (t, b)) (k : KindAns l g w e w') : e = .returned (.tuple #[.agg #[.int .i64 t.k, .string t.n], .bool true]) ∧ Kp g w w' ∧ Rd g b w' := by
  unfold KindAns at k
  rw [h] at k
  exact k

/-- The world with the reader's block, the last one. -/
structure Made (w W : World) (l : List UInt8) : Prop where
  below : Below w.heap.size w W
  res : W.heap[w.heap.size]? = some (.cells #[.int .i64 0, .string ⟨#[]⟩] 23 (0, 0))
  rd : Rd (w.heap.size + 1) l W

theorem size_alloc (w : World) (o : Obj) : (w.alloc o).heap.size = w.heap.size + 1 := by simp

set_option maxHeartbeats 1000000 in
theorem type_any (l : List UInt8) (w : World) (hS : Sg w) (hl : l.length ≤ 9223372036854775807) :
    Calls Tryd.prog 12 #[.string (tx l)] w fun e w' => e = .returned (typeRes l) ∧ Below w.heap.size w w' := by
  have h0 := hS.lt
  have HS := hid hS
  clear hS
  go_enter Tryd.func12, Tryd.ntmps12
  go_wp2_with fail
  obtain ⟨W1, hW1⟩ : ∃ W1, W1 = (w.alloc (.cells #[.int .i64 0, .string ⟨#[]⟩] 23)).alloc (.cells #[.string (tx l)] 54) := ⟨_, rfl⟩
  rw [← hW1]
  have hM : Made w W1 l := by
    rw [hW1]
    exact ⟨(((Below.refl _ _).alloc (Nat.le_refl _) _).alloc (by simp) _), blk_alloc (blk_new _ _) _, (by have := blk_new (w.alloc (.cells #[.int .i64 0, .string ⟨#[]⟩] 23)) (.cells #[.string (tx l)] 54); rw [size_alloc] at this; exact this)⟩
  clear hW1
  have hS1 := HS.out.below h0 hM.below
  cases hk : kindL l with
  | none =>
    have HT : Hid (typeRes l = .tuple #[.agg #[.int .i64 0, .string ⟨#[]⟩], .int .i64 50]) := by show typeRes l = _; simp only [typeRes, typeL, hk]
    refine (kind_any _ l _ hS1 (by omega) hM.rd hl).mono ?_
    intro e w2 hA
    obtain ⟨t, rfl, hK⟩ := hA.no hk
    have HR := hid (hK.blk (by omega) hM.res)
    have hB2 : Below w.heap.size w w2 := hM.below.trans (hK.below.mono (by omega))
    have hlt := blk_lt HR.out
    have hr0 := blk_cell HR.out 0
    have hr1 := blk_cell HR.out 1
    have hf0 := blk_frozen HR.out 0
    have hf1 := blk_frozen HR.out 1
    clear hA hk hM hK
    go_wp2
    refine bodyPost_ret (results_ct rfl _ _ w.heap.size 23 #[.int .i64 0, .string ⟨#[]⟩] (0, 0) _ rfl (blk_alloc (blk_put (blk_put HR.out 0 _ rfl) 1 _ rfl) _) Tryd.underlying23 rfl (by kernel_rfl)) rfl ?_
    exact ⟨by rw [HT.out]; rfl, below_alloc (below_set (below_set hB2 (Nat.le_refl _)) (Nat.le_refl _)) _⟩
  | some x =>
    obtain ⟨t, b⟩ := x
    refine (kind_any _ l _ hS1 (by omega) hM.rd hl).mono ?_
    intro e w2 hA
    obtain ⟨rfl, hK, hRd⟩ := hA.yes hk
    have HR := hid (hK.blk (by omega) hM.res)
    have hB2 : Below w.heap.size w w2 := hM.below.trans (hK.below.mono (by omega))
    have hlt := blk_lt HR.out
    have hlt2 := blk_lt hRd
    have hr0 := blk_cell HR.out 0
    have hr1 := blk_cell HR.out 1
    have hf0 := blk_frozen HR.out 0
    have hf1 := blk_frozen HR.out 1
    have hg0 := blk_cell hRd 0
    cases b with
    | nil =>
      have HT : Hid (typeRes l = .tuple #[.agg #[.int .i64 t.k, .string t.n], .int .i64 0]) := by show typeRes l = _; simp only [typeRes, typeL, hk]
      have he : (tx []).toList.isEmpty = true := tx_empty []
      clear hA hk hM hK hRd
      go_wp2
      refine bodyPost_ret (results_ct rfl _ _ w.heap.size 23 #[.int .i64 t.k, .string t.n] (0, 0) _ rfl (blk_alloc (blk_put (blk_put HR.out 0 _ rfl) 1 _ rfl) _) Tryd.underlying23 rfl (by kernel_rfl)) rfl ?_
      exact ⟨by rw [HT.out]; rfl, below_alloc (below_set (below_set hB2 (Nat.le_refl _)) (Nat.le_refl _)) _⟩
    | cons c b =>
      have HT : Hid (typeRes l = .tuple #[.agg #[.int .i64 0, .string ⟨#[]⟩], .int .i64 50]) := by show typeRes l = _; simp only [typeRes, typeL, hk]
      have he : (tx (c :: b)).toList.isEmpty = false := tx_empty (c :: b)
      clear hA hk hM hK hRd
      go_wp2
      refine bodyPost_ret (results_ct rfl _ _ w.heap.size 23 #[.int .i64 0, .string ⟨#[]⟩] (0, 0) _ rfl (blk_alloc (blk_put (blk_put HR.out 0 _ rfl) 1 _ rfl) _) Tryd.underlying23 rfl (by kernel_rfl)) rfl ?_
      exact ⟨by rw [HT.out]; rfl, below_alloc (below_set (below_set hB2 (Nat.le_refl _)) (Nat.le_refl _)) _⟩

end Go.Proofs.YtcaepnbamnicmaaDoor
