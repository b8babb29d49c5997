/- descr's reader: takes, kind. -/
import Derived.Test.YtcaepnbamnicmaaDoorDe
import Derived.Test.YtcaepnbamnicmaaDoorWWords
import Derived.Deep.RegionWith
namespace Go.Proofs.YtcaepnbamnicmaaDoor
open Go.RowKit Go.Proofs.YtcaepnbamnicmaaDoorW.PrintWords

/-- A text out of its bytes. -/
def tx (l : List UInt8) : ByteArray := ⟨l.toArray⟩
theorem tx_toList (l : List UInt8) : (tx l).data.toList = l := by simp [tx]
theorem tx_of (s : ByteArray) : tx s.data.toList = s := by cases s; simp [tx]
theorem tx_size (l : List UInt8) : (tx l).size = l.length := by simp [tx, ByteArray.size]

set_option maxHeartbeats 1000000 in
theorem takes_no (g : Nat) (l p : List UInt8) (w : World) (hc : w.cell? ⟨g, 0, none⟩ = some (.string (tx l))) (h : Lib.hasPrefix l p = false) :
    Calls Tryd.prog 45 #[.pointer (some ⟨g, 0, none⟩), .string (tx p)] w fun e w' => e = .returned (.bool false) ∧ w' = w := by
  have H : Hid (∀ W, Calls Tryd.prog 59 #[.string (tx l), .string (tx p)] W fun e w' => e = .returned (.tuple #[.string (tx l), .bool false]) ∧ W = w') := fun W => by
    have := same (Tryd.strings_CutPrefix (tx l) (tx p) W)
    rw [tx_toList, tx_toList, Lib.trimPrefix, h, if_neg (by simp)] at this
    exact this
  clear h
  go_enter Tryd.func45, Tryd.ntmps45
  go_wp2_with (go_at_call 59; refine (H.out _).mono ?_; rintro e w' ⟨rfl, rfl⟩)
  go_ret
  exact ⟨rfl, rfl⟩

set_option maxHeartbeats 1000000 in
theorem takes_yes (g : Nat) (l p : List UInt8) (w : World) (hc : w.cell? ⟨g, 0, none⟩ = some (.string (tx l))) (hf : w.frozen? ⟨g, 0, none⟩ = false) (h : Lib.hasPrefix l p = true) :
    Calls Tryd.prog 45 #[.pointer (some ⟨g, 0, none⟩), .string (tx p)] w fun e w' => e = .returned (.bool true) ∧ w' = w.setCell ⟨g, 0, none⟩ (.string (tx (l.drop p.length))) := by
  have H : Hid (∀ W, Calls Tryd.prog 59 #[.string (tx l), .string (tx p)] W fun e w' => e = .returned (.tuple #[.string (tx (l.drop p.length)), .bool true]) ∧ W = w') := fun W => by
    have := same (Tryd.strings_CutPrefix (tx l) (tx p) W)
    rw [tx_toList, tx_toList, Lib.trimPrefix, h, if_pos rfl] at this
    exact this
  clear h
  go_enter Tryd.func45, Tryd.ntmps45
  go_wp2_with (go_at_call 59; refine (H.out _).mono ?_; rintro e w' ⟨rfl, rfl⟩)
  go_ret
  exact ⟨rfl, rfl⟩

/-- A text, cut at its first semicolon. -/
def cutAt : List UInt8 → Option (List UInt8 × List UInt8)
  | [] => none
  | b :: l => if b = 59 then some ([], l) else (cutAt l).map fun x => (b :: x.1, x.2)

theorem cutAt_none {l : List UInt8} (h : cutAt l = none) : Lib.indexByte l 59 = -1 := by
  induction l with
  | nil => rfl
  | cons b l ih =>
    unfold cutAt at h
    split at h
    · cases h
    · rename_i hb
      simp only [Option.map_eq_none_iff] at h
      have := ih h
      simp [Lib.indexByte, this, hb]
theorem cutAt_some {l a b : List UInt8} (h : cutAt l = some (a, b)) : l = a ++ 59 :: b ∧ Lib.indexByte l 59 = a.length ∧ 59 ∉ a := by
  induction l generalizing a b with
  | nil => cases h
  | cons c l ih =>
    unfold cutAt at h
    split at h
    · rename_i hc
      cases h
      subst hc
      simp [Lib.indexByte]
    · rename_i hc
      cases hr : cutAt l with
      | none => rw [hr] at h; cases h
      | some x =>
        obtain ⟨x1, x2⟩ := x
        rw [hr] at h
        cases h
        obtain ⟨h1, h2, h3⟩ := ih hr
        refine ⟨by simp [h1], ?_, by simp only [List.mem_cons, h3, or_false]; exact fun e => hc e.symm⟩
        have hb : (c == 59) = false := by simpa using hc
        have h4 : (Lib.indexByte l 59 == -1) = false := by rw [h2]; simp
        simp only [Lib.indexByte, hb, h4]
        simp [h2]

set_option maxHeartbeats 1000000 in
theorem cut_none (l : List UInt8) (w : World) (h : cutAt l = none) :
    Calls Tryd.prog 58 #[.string (tx l), .string ⟨#[59]⟩] w fun e w' => e = .returned (.tuple #[.string (tx l), .string ⟨#[]⟩, .bool false]) ∧ w' = w := by
  have H : Hid (∀ W, Calls Tryd.prog 74 #[.string (tx l), .string ⟨#[59]⟩] W fun e w' => e = .returned (.int .i64 (-1)) ∧ W = w') := fun W => by
    have := same (Tryd.stringslite_Index_one (tx l) 59 W)
    rw [tx_toList, cutAt_none h] at this
    exact this
  clear h
  have H2 : Hid (∀ W, Calls Tryd.prog 66 #[.string (tx l), .string ⟨#[59]⟩] W fun e w' => e = .returned (.tuple #[.string (tx l), .string ⟨#[]⟩, .bool false]) ∧ W = w') := fun W => by
    go_enter Tryd.func66, Tryd.ntmps66
    go_wp2_with (go_at_call 74; refine (H.out _).mono ?_; rintro e w' ⟨rfl, rfl⟩)
    go_ret3
    exact ⟨rfl, rfl⟩
  go_enter Tryd.func58, Tryd.ntmps58
  go_wp2_with (go_at_call 66; refine (H2.out _).mono ?_; rintro e w' ⟨rfl, rfl⟩)
  go_ret3
  exact ⟨rfl, rfl⟩

set_option maxHeartbeats 1000000 in
theorem cut_some (l a b : List UInt8) (w : World) (h : cutAt l = some (a, b)) (hl : l.length ≤ 9223372036854775807) :
    Calls Tryd.prog 58 #[.string (tx l), .string ⟨#[59]⟩] w fun e w' => e = .returned (.tuple #[.string (tx a), .string (tx b), .bool true]) ∧ ∃ n, w' = w.drewN n := by
  obtain ⟨h1, h2, h3⟩ := cutAt_some h
  have H : Hid (∀ W, Calls Tryd.prog 74 #[.string (tx l), .string ⟨#[59]⟩] W fun e w' => e = .returned (.int .i64 (a.length : Nat)) ∧ W = w') := fun W => by
    have := same (Tryd.stringslite_Index_one (tx l) 59 W)
    rw [tx_toList, h2] at this
    exact this
  have h4 : a.length + 1 ≤ (tx l).size := by rw [tx_size, h1]; simp
  have h5 : (tx l).size ≤ 9223372036854775807 := by rw [tx_size]; exact hl
  have HA : Hid ((tx l).extract 0 a.length = tx a) := by
    apply Go.WideShapes.bytes_inj
    rw [Lib.extract_data, tx_toList, tx_toList, h1]
    simp
  have HB : Hid ((tx l).extract (a.length + 1) (tx l).size = tx b) := by
    apply Go.WideShapes.bytes_inj
    rw [Lib.extract_data, tx_toList, tx_toList, tx_size, h1]
    simp
    exact List.take_of_length_le (by omega)
  clear h h1 h2 h3 hl
  generalize tx l = s at *
  have H2 : Hid (∀ W, Calls Tryd.prog 66 #[.string s, .string ⟨#[59]⟩] W fun e w' => e = .returned (.tuple #[.string (tx a), .string (tx b), .bool true]) ∧ ∃ n, w' = W.drewN n) := fun W => by
    have h6 : 0 ≤ (a.length : Int) + 1 := by omega
    have h7 : ((a.length : Int) + 1).toNat = a.length + 1 := by omega
    have h8 : IntKind.i64.wrap ((a.length : Int) + 1) = (a.length : Int) + 1 := IntWalk.i64_in _ (by omega)
    go_enter Tryd.func66, Tryd.ntmps66
    go_wp2_with (go_at_call 74; refine (H.out _).mono ?_; rintro e w' ⟨rfl, rfl⟩)
    go_quiet (fail)
    go_wp2
    go_ret3
    exact ⟨by first | rfl | (rw [← HA.out, ← HB.out]; rfl), _, rfl⟩
  go_enter Tryd.func58, Tryd.ntmps58
  go_wp2_with (go_at_call 66; refine (H2.out _).mono ?_; rintro e w' ⟨rfl, n, rfl⟩)
  go_ret3
  exact ⟨rfl, _, rfl⟩

/-- Only block g has changed, and what is new. -/
structure Kp (g : Nat) (w w' : World) : Prop where
  below : Below g w w'
  size : w.heap.size ≤ w'.heap.size
  block : ∀ i, i < w.heap.size → i ≠ g → w'.heap[i]? = w.heap[i]?
theorem Kp.refl (g : Nat) (w : World) : Kp g w w := ⟨Below.refl _ _, Nat.le_refl _, fun _ _ _ => rfl⟩
theorem Kp.trans {g : Nat} {a b c : World} (h : Kp g a b) (k : Kp g b c) : Kp g a c :=
  ⟨h.below.trans k.below, Nat.le_trans h.size k.size, fun i hi hg => (k.block i (Nat.lt_of_lt_of_le hi h.size) hg).trans (h.block i hi hg)⟩
theorem Kp.of_below {g : Nat} {a b : World} (h : Below a.heap.size a b) (hg : g < a.heap.size) : Kp g a b :=
  ⟨h.mono (by omega), h.size, fun i hi _ => h.block i hi⟩
theorem Kp.set {g : Nat} (w : World) (j : Nat) (v : Value) : Kp g w (w.setCell ⟨g, j, none⟩ v) :=
  ⟨(Below.refl _ _).setCell (by simp) _, by simp [World.setCell], fun i _ hi => Below.heap_setCell w ⟨g, j, none⟩ v i hi⟩
theorem Kp.cell {g : Nat} {a b : World} (h : Kp g a b) {p : Addr} (hp : p.block ≠ g) {v : Value} (hc : a.cell? p = some v) : b.cell? p = some v :=
  (World.cell?_of_block (w := a) (h.block p.block (World.block_lt_of_cell? a p hc) hp)).trans hc
theorem Kp.frozen {g : Nat} {a b : World} (h : Kp g a b) {p : Addr} (hp : p.block ≠ g) (hl : p.block < a.heap.size) : b.frozen? p = a.frozen? p :=
  World.frozen?_of_block (w := a) (h.block p.block hl hp)
theorem Sg.kp {w w' : World} {g : Nat} (h : Sg w) (hg : g ≠ 0) (k : Kp g w w') : Sg w' := by
  have h0 := h.lt
  obtain ⟨t, fr, hh⟩ := h
  exact ⟨t, fr, (k.block 0 h0 (by omega)).trans hh⟩

theorem tyOk_plain {j : Nat} (h : j < 6) (hn : nmd j = false) : tyOk ⟨(j : Int) + 1, ⟨#[]⟩⟩ = true := by
  have : j = 0 ∨ j = 1 ∨ j = 2 ∨ j = 3 ∨ j = 4 ∨ j = 5 := by omega
  rcases this with rfl | rfl | rfl | rfl | rfl | rfl
  · rfl
  · rfl
  · cases hn
  · rfl
  · rfl
  · cases hn

theorem aft_named {j : Nat} (h : j < 6) (hn : nmd j = true) : aft j = ⟨#[59]⟩ := by
  have : j = 0 ∨ j = 1 ∨ j = 2 ∨ j = 3 ∨ j = 4 ∨ j = 5 := by omega
  rcases this with rfl | rfl | rfl | rfl | rfl | rfl
  · cases hn
  · cases hn
  · rfl
  · cases hn
  · cases hn
  · rfl

/-- What stands ahead of a type. -/
def befL : Nat → List UInt8
  | 0 => [73] | 1 => [74] | 2 => [76] | 3 => [91, 73] | 4 => [91, 74] | _ => [91, 76]
theorem bef_tx (j : Nat) : bef j = tx (befL j) := by
  match j with
  | 0 => rfl
  | 1 => rfl
  | 2 => rfl
  | 3 => rfl
  | 4 => rfl
  | _ + 5 => rfl
/-- A type at the beginning of a text, and what is left. -/
def kindFrom : Nat → Nat → List UInt8 → Option (Ty × List UInt8)
  | 0, _, _ => none
  | d + 1, j, l =>
    if Lib.hasPrefix l (befL j) then
      if nmd j then
        match cutAt (l.drop (befL j).length) with
        | none => none
        | some (a, b) => if tyOk ⟨j + 1, tx a⟩ then some (⟨j + 1, tx a⟩, b) else none
      else some (⟨j + 1, ⟨#[]⟩⟩, l.drop (befL j).length)
    else kindFrom d (j + 1) l
def kindL (l : List UInt8) : Option (Ty × List UInt8) := kindFrom 6 0 l

/-- The reader's block. -/
def Rd (g : Nat) (l : List UInt8) (w : World) : Prop := w.heap[g]? = some (.cells #[.string (tx l)] 54 (0, 0))
/-- What the reader's kind answers. -/
def KindAns (l : List UInt8) (g : Nat) (w : World) (e : Ending) (w' : World) : Prop :=
  match kindL l with
  | some (t, b) => e = .returned (.tuple #[.agg #[.int .i64 t.k, .string t.n], .bool true]) ∧ Kp g w w' ∧ Rd g b w'
  | none => (∃ t : Ty, e = .returned (.tuple #[.agg #[.int .i64 t.k, .string t.n], .bool false])) ∧ Kp g w w'

theorem Kp.drew (g : Nat) (w : World) : Kp g w w.drew := ⟨below_drewN' (Below.refl _ _) 1, Nat.le_refl _, fun _ _ _ => rfl⟩
theorem Kp.drewN (g : Nat) (w : World) (n : Nat) : Kp g w (w.drewN n) := ⟨below_drewN' (Below.refl _ _) n, Nat.le_refl _, fun _ _ _ => rfl⟩
theorem Kp.alloc (g : Nat) (w : World) (o : Obj) (hg : g < w.heap.size) : Kp g w (w.alloc o) := .of_below ((Below.refl _ _).alloc (Nat.le_refl _) _) hg
theorem Kp.blk {g i : Nat} {a b : World} {o : Obj} (h : Kp g a b) (hi : i ≠ g) (hb : a.heap[i]? = some o) : b.heap[i]? = some o := (h.block i (blk_lt hb) hi).trans hb
theorem Kp.new {g : Nat} {a b : World} (h : Kp g a b) {i : Nat} (hg : g < a.heap.size) (hi : a.heap.size ≤ i) (j : Nat) (v : Value) : Kp g a (b.setCell ⟨i, j, none⟩ v) :=
  ⟨h.below.setCell (by show g ≤ i; omega) _, by simpa [World.setCell] using h.size, fun k hk hkg => (Below.heap_setCell b ⟨i, j, none⟩ v k (by show k ≠ i; omega)).trans (h.block k hk hkg)⟩

/-- A world as it stands when a sign's beginning has been taken off. -/
structure Took (g : Nat) (j : Nat) (l : List UInt8) (w w' : World) (sb : Nat) (nm : Bool) (af : ByteArray) : Prop where
  kp : Kp g w w'
  rd : Rd g l w'
  res : w'.heap[w.heap.size]? = some (.cells #[.int .i64 0, .string ⟨#[]⟩] 23 (0, 0))
  sb : w'.heap[sb]? = some (.cells #[.int .i64 (j + 1), .string (tx (befL j)), .string af, .bool nm, .int .i64 (wds j), .int .i64 (vl j)] 60 (0, 0))

set_option maxHeartbeats 2000000 in
set_option maxRecDepth 100000 in
theorem kind_any (g : Nat) (l : List UInt8) (w : World) (hS : Sg w) (hg : g ≠ 0) (hr : Rd g l w) (hl : l.length ≤ 9223372036854775807) :
    Calls Tryd.prog 43 #[.pointer (some ⟨g, 0, none⟩)] w (KindAns l g w) := by
  have hgl : g < w.heap.size := blk_lt hr
  obtain ⟨t, fr, hgb⟩ := hS.alloc (.cells #[.int .i64 0, .string ⟨#[]⟩] 23)
  have HS := hid hS
  have HRD := hid hr
  clear hS hr
  go_enter Tryd.func43, Tryd.ntmps43
  go_wp2_with (refine wpList_load_row rfl 61 _ rfl 0 rfl t _ fr _ hgb Tryd.underlying61 rfl (by kernel_rfl) ?_)
  clear hgb
  go_loopw [11] (fun i wr => ∃ j : Nat, j ≤ 6 ∧ i = .int .i64 j ∧ Hid (kindFrom (6 - j) j l = kindL l) ∧ Kp g w wr ∧ Hid (wr.heap[w.heap.size]? = some (.cells #[.int .i64 0, .string ⟨#[]⟩] 23 (0, 0))) ∧ Hid (Rd g l wr)) (fun i _ => 6 - (intOf i).toNat)
  case atStart => exact ⟨0, by omega, rfl, rfl, Kp.alloc _ _ _ hgl, heap_alloc_new _ _, blk_alloc HRD.out _⟩
  case round =>
    obtain ⟨j, hj, rfl, HF, HK, HR, HG⟩ := hrel
    have hsz := HK.size
    have hRl := blk_lt HR.out
    by_cases hlt : j < 6
    · have hi := fun w => idx_sign j hlt w
      unfold rowOf at hi
      rw [bef_tx] at hi
      cases hpre : Lib.hasPrefix l (befL j) with
      | false =>
        have HNO := hid (fun W h => takes_no g l (befL j) W h hpre)
        have HF2 : Hid (kindFrom (6 - (j + 1)) (j + 1) l = kindL l) := by
          have := HF.out
          rw [show 6 - j = (6 - (j + 1)) + 1 by omega, kindFrom, if_neg (by simp [hpre])] at this
          exact this
        clear hpre
        go_wp2
        go_quiet ((go_at_call 45; exact Calls.quiet_of_same (HNO.out _ (by exact blk_cell (blk_drewN (blk_alloc HG.out _) _) 0))))
        go_wp2
        exact ⟨⟨j + 1, by omega, by go_num, HF2, HK.trans ((Kp.alloc _ _ _ (by omega)).trans (Kp.drewN _ _ _)), blk_drewN (blk_alloc HR.out _) _, blk_drewN (blk_alloc HG.out _) _⟩, by simp [intOf]; omega⟩
      | true =>
        have HP := hid hpre
        clear hpre
        cases hnm : nmd j with
        | false =>
          rw [hnm] at hi
          have HN := hid hnm
          clear hnm
          go_wp2
          obtain ⟨W1, hW1⟩ : ∃ W1, W1 = wr.alloc (.cells #[.int .i64 (j + 1), .string (tx (befL j)), .string (aft j), .bool false, .int .i64 (wds j), .int .i64 (vl j)] 60 (0, 0)) := ⟨_, rfl⟩
          rw [← hW1]
          have hT : Took g j l w W1 wr.heap.size false (aft j) := by
            rw [hW1]
            exact ⟨HK.trans (Kp.alloc _ _ _ (by omega)), blk_alloc HG.out _, blk_alloc HR.out _, blk_new _ _⟩
          clear hW1 HR HG HK
          have hx1 := blk_cell hT.sb 1
          have hsg : wr.heap.size ≠ g := by omega
          have hwg : w.heap.size ≠ g := by omega
          go_still_tail 5, (by kernel_rfl)
          change wpList _ _ _ _ _ W1.drew
          go_wp2_with (go_at_call 45; refine (takes_yes g l (befL j) _ (by exact blk_cell hT.rd 0) (by exact blk_frozen hT.rd 0) HP.out).mono ?_; rintro e w' ⟨rfl, hw'⟩; have HT : Took g j (l.drop (befL j).length) w w' wr.heap.size false (aft j) := by { rw [hw']; exact ⟨hT.kp.trans ((Kp.drew _ _).trans (Kp.set _ _ _)), blk_put (blk_drew hT.rd) 0 _ rfl, blk_far (blk_drew hT.res) hwg _, blk_far (blk_drew hT.sb) hsg _⟩ }; clear hw' hT hx1; have hy0 := blk_cell HT.sb 0; have hy2 := blk_cell HT.sb 2; have hy3 := blk_cell HT.sb 3; have hz2 := blk_lt HT.sb)
          have hok : tyOk ⟨(j : Int) + 1, ⟨#[]⟩⟩ = true := tyOk_plain hlt HN.out
          have HOK := hid hok
          clear hok
          obtain ⟨W2, hW2⟩ : ∃ W2, W2 = w'.alloc (.cells #[.int .i64 (j + 1), .string ⟨#[]⟩] 23 (0, 0)) := ⟨_, rfl⟩
          rw [← hW2]
          have hg2 := blk_lt HT.rd
          have hT : Took g j (l.drop (befL j).length) w W2 wr.heap.size false (aft j) := by
            rw [hW2]
            exact ⟨HT.kp.trans (Kp.alloc _ _ _ hg2), blk_alloc HT.rd _, blk_alloc HT.res _, blk_alloc HT.sb _⟩
          have hb : W2.heap[w'.heap.size]? = some (.cells #[.int .i64 (j + 1), .string ⟨#[]⟩] 23 (0, 0)) := by rw [hW2]; exact blk_new _ _
          clear hW2 HT hy0 hy2 hy3
          have hb0 := blk_cell hb 0
          have hb1 := blk_cell hb 1
          have HL : Hid (kindL l = some (⟨(j : Int) + 1, ⟨#[]⟩⟩, l.drop (befL j).length)) := by
            have := HF.out
            rw [show 6 - j = (6 - (j + 1)) + 1 by omega, kindFrom, if_pos HP.out, HN.out] at this
            exact this.symm
          have HS2 := hid (HS.out.kp hg hT.kp)
          go_region_with (go_at_call 21; refine (checkType_any ⟨j + 1, ⟨#[]⟩⟩ _ (by exact HS2.out)).mono ?_; rintro e w3 ⟨rfl, hb3⟩; rw [HOK.out, show errOf true = 0 from rfl]; have hr3 := hid (blk_below (blk_drew hT.res) hb3); have hr0 := blk_cell hr3.out 0; have hr1 := blk_cell hr3.out 1; have hf0 := blk_frozen hr3.out 0; have hf1 := blk_frozen hr3.out 1; have hq := hid (blk_below (blk_drew hb) hb3); have hq0 := blk_cell hq.out 0; have hq1 := blk_cell hq.out 1)
          all_goals
            go_wp2
            refine bodyPost_ret (results_ct rfl _ _ w.heap.size 23 #[.int .i64 (j + 1), .string ⟨#[]⟩] (0, 0) _ rfl (blk_put (blk_put hr3.out 0 _ rfl) 1 _ rfl) Tryd.underlying23 rfl (by kernel_rfl)) rfl ?_
            unfold KindAns
            rw [HL.out]
            refine ⟨rfl, ?_, ?_⟩
            · have hk3 : Kp g w w3 := hT.kp.trans ((Kp.drew _ _).trans (Kp.of_below hb3 (by exact blk_lt hT.rd)))
              exact ((hk3.new hgl (Nat.le_refl _) _ _).new hgl (Nat.le_refl _) _ _)
            · exact blk_far (blk_far (blk_below (blk_drew hT.rd) hb3) (by show g ≠ w.heap.size; omega) _) (by show g ≠ w.heap.size; omega) _
        | true =>
          rw [hnm] at hi
          have HN := hid hnm
          have haft := aft_named hlt hnm
          rw [haft] at hi
          clear hnm haft
          go_wp2
          obtain ⟨W1, hW1⟩ : ∃ W1, W1 = wr.alloc (.cells #[.int .i64 (j + 1), .string (tx (befL j)), .string ⟨#[59]⟩, .bool true, .int .i64 (wds j), .int .i64 (vl j)] 60 (0, 0)) := ⟨_, rfl⟩
          rw [← hW1]
          have hT : Took g j l w W1 wr.heap.size true ⟨#[59]⟩ := by
            rw [hW1]
            exact ⟨HK.trans (Kp.alloc _ _ _ (by omega)), blk_alloc HG.out _, blk_alloc HR.out _, blk_new _ _⟩
          clear hW1 HR HG HK
          have hx1 := blk_cell hT.sb 1
          have hsg : wr.heap.size ≠ g := by omega
          have hwg : w.heap.size ≠ g := by omega
          go_still_tail 5, (by kernel_rfl)
          change wpList _ _ _ _ _ W1.drew
          go_wp2_with (go_at_call 45; refine (takes_yes g l (befL j) _ (by exact blk_cell hT.rd 0) (by exact blk_frozen hT.rd 0) HP.out).mono ?_; rintro e w' ⟨rfl, hw'⟩; have HT : Took g j (l.drop (befL j).length) w w' wr.heap.size true ⟨#[59]⟩ := by { rw [hw']; exact ⟨hT.kp.trans ((Kp.drew _ _).trans (Kp.set _ _ _)), blk_put (blk_drew hT.rd) 0 _ rfl, blk_far (blk_drew hT.res) hwg _, blk_far (blk_drew hT.sb) hsg _⟩ }; clear hw' hT hx1; have hy0 := blk_cell HT.sb 0; have hy2 := blk_cell HT.sb 2; have hy3 := blk_cell HT.sb 3; have hz2 := blk_lt HT.sb)
          obtain ⟨W2, hW2⟩ : ∃ W2, W2 = w'.alloc (.cells #[.int .i64 (j + 1), .string ⟨#[]⟩] 23 (0, 0)) := ⟨_, rfl⟩
          rw [← hW2]
          have hg2 := blk_lt HT.rd
          have hT : Took g j (l.drop (befL j).length) w W2 wr.heap.size true ⟨#[59]⟩ := by
            rw [hW2]
            exact ⟨HT.kp.trans (Kp.alloc _ _ _ hg2), blk_alloc HT.rd _, blk_alloc HT.res _, blk_alloc HT.sb _⟩
          have hb : W2.heap[w'.heap.size]? = some (.cells #[.int .i64 (j + 1), .string ⟨#[]⟩] 23 (0, 0)) := by rw [hW2]; exact blk_new _ _
          have hwn : w.heap.size ≤ w'.heap.size := HT.kp.size
          have hne1 : w'.heap.size ≠ g := by omega
          have hne2 : w'.heap.size ≠ w.heap.size := by omega
          clear hW2 HT hy0 hy2 hy3 hg2
          have hgs := blk_cell hT.rd 0
          have hss := blk_cell hT.sb 2
          have hll : (l.drop (befL j).length).length ≤ 9223372036854775807 := by rw [List.length_drop]; omega
          cases hcut : cutAt (l.drop (befL j).length) with
          | none =>
            have HL : Hid (kindL l = none) := by
              have := HF.out
              rw [show 6 - j = (6 - (j + 1)) + 1 by omega, kindFrom, if_pos HP.out, HN.out, hcut] at this
              exact this.symm
            have HC := hid (fun W => cut_none (l.drop (befL j).length) W hcut)
            clear hcut
            go_quiet ((go_at_call 58; exact Calls.quiet_of_same (HC.out _)))
            have hr0 := blk_cell (blk_drewN hT.res nq) 0
            have hr1 := blk_cell (blk_drewN hT.res nq) 1
            have hf0 := blk_frozen (blk_drewN hT.res nq) 0
            have hf1 := blk_frozen (blk_drewN hT.res nq) 1
            go_wp2
            refine bodyPost_ret (results_ct rfl _ _ w.heap.size 23 #[.int .i64 0, .string ⟨#[]⟩] (0, 0) _ rfl (blk_put (blk_put (blk_drewN hT.res nq) 0 _ rfl) 1 _ rfl) Tryd.underlying23 rfl (by kernel_rfl)) rfl ?_
            unfold KindAns
            rw [HL.out]
            refine ⟨⟨⟨0, ⟨#[]⟩⟩, rfl⟩, ?_⟩
            exact (((hT.kp.trans (Kp.drewN _ _ _)).new hgl (Nat.le_refl _) _ _).new hgl (Nat.le_refl _) _ _)
          | some x =>
            obtain ⟨a, b⟩ := x
            have HL : Hid (kindL l = if tyOk ⟨(j : Int) + 1, tx a⟩ then some (⟨(j : Int) + 1, tx a⟩, b) else none) := by
              have := HF.out
              rw [show 6 - j = (6 - (j + 1)) + 1 by omega, kindFrom, if_pos HP.out, HN.out, hcut] at this
              exact this.symm
            have HC := hid (fun W => cut_some (l.drop (befL j).length) a b W hcut hll)
            clear hcut
            go_quiet ((go_at_call 58; exact Calls.quiet_of (HC.out _)))
            obtain ⟨W3, hW3⟩ : ∃ W3, W3 = W2.drewN nq := ⟨_, rfl⟩
            rw [← hW3]
            have hT3 : Took g j (l.drop (befL j).length) w W3 wr.heap.size true ⟨#[59]⟩ := by rw [hW3]; exact ⟨hT.kp.trans (Kp.drewN _ _ _), hT.rd, hT.res, hT.sb⟩
            have hb3 : W3.heap[w'.heap.size]? = some (.cells #[.int .i64 (j + 1), .string ⟨#[]⟩] 23 (0, 0)) := by rw [hW3]; exact hb
            clear hW3 hT hb hgs hss
            have hb31 := blk_cell hb3 1
            have hbf1 := blk_frozen hb3 1
            have hg30 := blk_cell hT3.rd 0
            have hgf0 := blk_frozen hT3.rd 0
            go_wp2
            obtain ⟨W4, hW4⟩ : ∃ W4, W4 = (W3.setCell ⟨w'.heap.size, 1, none⟩ (.string (tx a))).setCell ⟨g, 0, none⟩ (.string (tx b)) := ⟨_, rfl⟩
            rw [← hW4]
            have hT4 : Took g j b w W4 wr.heap.size true ⟨#[59]⟩ := by
              rw [hW4]
              exact ⟨(hT3.kp.new hgl hwn _ _).trans (Kp.set _ _ _), blk_put (blk_far hT3.rd (by show g ≠ w'.heap.size; omega) _) 0 _ rfl, blk_far (blk_far hT3.res (by show w.heap.size ≠ w'.heap.size; omega) _) hwg _, blk_far (blk_far hT3.sb (by show wr.heap.size ≠ w'.heap.size; omega) _) hsg _⟩
            have hb4 : W4.heap[w'.heap.size]? = some (.cells #[.int .i64 (j + 1), .string (tx a)] 23 (0, 0)) := by rw [hW4]; exact blk_far (blk_put hb3 1 _ rfl) hne1 _
            clear hW4 hT3 hb3 hb31 hbf1 hg30 hgf0
            have hb0 := blk_cell hb4 0
            have hb1 := blk_cell hb4 1
            have HS2 := hid (HS.out.kp hg hT4.kp)
            cases hok : tyOk ⟨(j : Int) + 1, tx a⟩ with
            | true =>
              have HOK := hid hok
              rw [hok, if_pos rfl] at HL
              clear hok
              go_region_with (go_at_call 21; refine (checkType_any ⟨j + 1, tx a⟩ _ (by exact HS2.out)).mono ?_; rintro e w3 ⟨rfl, hb3⟩; rw [HOK.out, show errOf true = 0 from rfl]; have hr3 := hid (blk_below (blk_drew hT4.res) hb3); have hr0 := blk_cell hr3.out 0; have hr1 := blk_cell hr3.out 1; have hf0 := blk_frozen hr3.out 0; have hf1 := blk_frozen hr3.out 1; have hq := hid (blk_below (blk_drew hb4) hb3); have hq0 := blk_cell hq.out 0; have hq1 := blk_cell hq.out 1)
              all_goals
                go_wp2
                refine bodyPost_ret (results_ct rfl _ _ w.heap.size 23 #[.int .i64 (j + 1), .string (tx a)] (0, 0) _ rfl (blk_put (blk_put hr3.out 0 _ rfl) 1 _ rfl) Tryd.underlying23 rfl (by kernel_rfl)) rfl ?_
                unfold KindAns
                rw [HL.out]
                refine ⟨rfl, ?_, ?_⟩
                · have hk3 : Kp g w w3 := hT4.kp.trans ((Kp.drew _ _).trans (Kp.of_below hb3 (by exact blk_lt hT4.rd)))
                  exact ((hk3.new hgl (Nat.le_refl _) _ _).new hgl (Nat.le_refl _) _ _)
                · exact blk_far (blk_far (blk_below (blk_drew hT4.rd) hb3) (by show g ≠ w.heap.size; omega) _) (by show g ≠ w.heap.size; omega) _
            | false =>
              have HOK := hid hok
              rw [hok, if_neg (by simp)] at HL
              clear hok
              go_region_with (go_at_call 21; refine (checkType_any ⟨j + 1, tx a⟩ _ (by exact HS2.out)).mono ?_; rintro e w3 ⟨rfl, hb3⟩; rw [HOK.out, show errOf false = 2 from rfl]; have hr3 := hid (blk_below (blk_drew hT4.res) hb3); have hr0 := blk_cell hr3.out 0; have hr1 := blk_cell hr3.out 1; have hf0 := blk_frozen hr3.out 0; have hf1 := blk_frozen hr3.out 1; have hq := hid (blk_below (blk_drew hb4) hb3); have hq0 := blk_cell hq.out 0; have hq1 := blk_cell hq.out 1)
              all_goals
                go_wp2
                refine bodyPost_ret (results_ct rfl _ _ w.heap.size 23 #[.int .i64 (j + 1), .string (tx a)] (0, 0) _ rfl (blk_put (blk_put hr3.out 0 _ rfl) 1 _ rfl) Tryd.underlying23 rfl (by kernel_rfl)) rfl ?_
                unfold KindAns
                rw [HL.out]
                refine ⟨⟨⟨(j : Int) + 1, tx a⟩, rfl⟩, ?_⟩
                have hk3 : Kp g w w3 := hT4.kp.trans ((Kp.drew _ _).trans (Kp.of_below hb3 (by exact blk_lt hT4.rd)))
                exact ((hk3.new hgl (Nat.le_refl _) _ _).new hgl (Nat.le_refl _) _ _)
    · obtain rfl : j = 6 := by omega
      have HL : Hid (kindL l = none) := HF.out.symm
      have hr0 := blk_cell HR.out 0
      have hr1 := blk_cell HR.out 1
      have hf0 := blk_frozen HR.out 0
      have hf1 := blk_frozen HR.out 1
      go_wp2
      refine bodyPost_ret (results_ct rfl _ _ w.heap.size 23 #[.int .i64 0, .string ⟨#[]⟩] (0, 0) _ rfl (blk_put (blk_put HR.out 0 _ rfl) 1 _ rfl) Tryd.underlying23 rfl (by kernel_rfl)) rfl ?_
      unfold KindAns
      rw [HL.out]
      refine ⟨⟨⟨0, ⟨#[]⟩⟩, rfl⟩, ?_⟩
      exact ((HK.new hgl (Nat.le_refl _) _ _).new hgl (Nat.le_refl _) _ _)

end Go.Proofs.YtcaepnbamnicmaaDoor
