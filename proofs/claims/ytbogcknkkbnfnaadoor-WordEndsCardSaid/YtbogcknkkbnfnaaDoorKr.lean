/- joined: what stands right above each class. -/
import Derived.Test.YtbogcknkkbnfnaaDoorKq
namespace Go.Proofs.YtbogcknkkbnfnaaDoor
open Go.RowKit Go.Proofs.YtbogcknkkbnfnaaDoorW.PrintWords Go.Maps Go.WideMaps

def kI : Kd Int := Kd.int .i64
def kIs : Kd (List Int) := Kd.slice 3 kI
/-- The first interface's name that is none. -/
def faceBad (L : List Cl) (F : List ByteArray) : Option ByteArray := F.find? (fun s => (numOf L s).isNone)
def joinBad (L : List Cl) (k : Nat) : Option ByteArray := if (numOf L (L.getD k zCl).super).isNone then some (L.getD k zCl).super else faceBad L (L.getD k zCl).faces
def joinErr (L : List Cl) : Option ByteArray := (List.range L.length).findSome? (joinBad L)
def supI (L : List Cl) (k : Nat) : Int := if k = 0 then -1 else numI L (L.getD k zCl).super
def fsI (L : List Cl) (k : Nat) : List Int := (L.getD k zCl).faces.map (numI L)
def supsL (L : List Cl) (k : Nat) : List Int := (List.range k).map (supI L)
def facesL (L : List Cl) (k : Nat) : List (List Int) := (List.range k).map (fsI L)
theorem supsL_succ (L : List Cl) (k : Nat) : supsL L (k + 1) = supsL L k ++ [supI L k] := by simp [supsL, List.range_succ]
theorem facesL_succ (L : List Cl) (k : Nat) : facesL L (k + 1) = facesL L k ++ [fsI L k] := by simp [facesL, List.range_succ]
theorem joinErr_some {L : List Cl} {k : Nat} {s : ByteArray} (h : ∀ j, j < k → joinBad L j = none) (hk : k < L.length) (hp : joinBad L k = some s) : joinErr L = some s := by
  unfold joinErr
  have e : List.range L.length = List.range k ++ (k :: (List.range' (k + 1) (L.length - (k + 1)))) := by
    rw [List.range_eq_range', List.range_eq_range']
    have := (List.range'_append_1 (s := 0) (m := k) (n := L.length - k)).symm
    rw [show k + (L.length - k) = L.length by omega] at this
    rw [this, Nat.zero_add, show L.length - k = (L.length - (k + 1)) + 1 by omega, List.range'_succ]
  rw [e, List.findSome?_append, List.findSome?_eq_none_iff.2 (fun j hj => h j (by simpa using hj)), List.findSome?_cons, hp]
  rfl
theorem joinErr_none {L : List Cl} (h : ∀ j, j < L.length → joinBad L j = none) : joinErr L = none := by
  unfold joinErr
  exact List.findSome?_eq_none_iff.2 (fun j hj => h j (by simpa using hj))
theorem faceBad_some {L : List Cl} {F : List ByteArray} {q : Nat} {s : ByteArray} (h : ∀ t ∈ F.take q, (numOf L t).isNone = false) (hq : F[q]? = some s) (hs : (numOf L s).isNone = true) : faceBad L F = some s := by
  unfold faceBad
  have hq2 := (List.getElem?_eq_some_iff.1 hq).1
  have e : F = F.take q ++ (s :: F.drop (q + 1)) := by
    have e1 : F[q] = s := (List.getElem?_eq_some_iff.1 hq).2
    rw [← e1, ← List.drop_eq_getElem_cons hq2, List.take_append_drop]
  rw [e, List.find?_append, List.find?_eq_none.2 (fun t ht => by rw [h t ht]; decide), List.find?_cons_of_pos (p := fun s => (numOf L s).isNone) hs]
  rfl

/-- The set's block while what stands right above is laid. -/
structure JSt (w0 : World) (p m : Nat) (cV : Value) (L : List Cl) (sV : Value) (S : List Int) (fV : Value) (F : List (List Int)) (w : World) : Prop where
  below : Below w0.heap.size w0 w
  blk : w.heap[p]? = some (.cells #[cV, .map (some m), sV, fV, .slice none 0 0] 92 (0, 0))
  row : kCl.R 57 w w0.heap.size (fun _ => True) cV L
  map : MapAt w m L
  fix : Fix p w
  sup : kI.R 3 w w0.heap.size (fun _ => True) sV S
  faces : kIs.R 75 w w0.heap.size (fun k => True ∧ some k ≠ sV.ownBlock) fV F
theorem JSt.start {w0 : World} {p m : Nat} {cV : Value} {L : List Cl} {w : World} (h : NSt w0 p m cV L L w) : JSt w0 p m cV L (.slice none 0 0) [] (.slice none 0 0) [] w :=
  ⟨h.below, h.blk, h.row, h.map, h.fix, Kd.R_nil _ _ _ _ _, Kd.R_nil _ _ _ _ _⟩
section
variable {w0 : World} {p m : Nat} {cV sV fV : Value} {L : List Cl} {S : List Int} {F : List (List Int)} {w : World}
theorem JSt.step (h : JSt w0 p m cV L sV S fV F w) {w' : World} (hb : Below w.heap.size w w') : JSt w0 p m cV L sV S fV F w' :=
  ⟨below_weaken h.below h.below.size hb, blk_below h.blk hb, Kd.R_below h.row hb, h.map.below hb, h.fix.below hb, Kd.R_below h.sup hb, Kd.R_below h.faces hb⟩
theorem JSt.alloc (h : JSt w0 p m cV L sV S fV F w) (o : Obj) : JSt w0 p m cV L sV S fV F (w.alloc o) := h.step (below_alloc (Below.refl _ _) o)
theorem JSt.drewN (h : JSt w0 p m cV L sV S fV F w) (n : Nat) : JSt w0 p m cV L sV S fV F (w.drewN n) := h.step (pw_below_drewN (Below.refl _ _) n)
theorem JSt.drew (h : JSt w0 p m cV L sV S fV F w) : JSt w0 p m cV L sV S fV F w.drew := h.step (below_drew (Below.refl _ _))
theorem reads_one {α : Type} (W : World) (b : Nat) (v : Value) (x : α) (h : W.cell? ⟨b, 0, none⟩ = some v) : ReadsRow (fun (y : α) cs => y = x ∧ cs = [v]) 1 W (some ⟨b, 0, none⟩) 1 [x] := by
  refine ⟨rfl, by decide, fun _ => ⟨_, rfl, fun j p hp => ?_⟩⟩
  cases j with
  | zero =>
    simp at hp
    subst hp
    refine ⟨[v], rfl, ⟨rfl, rfl⟩, fun i u hu => ?_⟩
    cases i with
    | zero => simp at hu; subst hu; exact h
    | succ i => simp at hu
  | succ j => simp at hp
/-- The super's row has been written. -/
theorem JSt.sup1 (h : JSt w0 p m cV L sV S fV F w) {s1V : Value} {w1 : World} (hG : w.grownBy w1 sV.ownBlock) (hat : s1V.ownBlock = sV.ownBlock ∨ ∃ b, s1V.ownBlock = some b ∧ w.heap.size ≤ b) :
    w1.heap[p]? = some (.cells #[cV, .map (some m), sV, fV, .slice none 0 0] 92 (0, 0)) ∧ kCl.R 57 w1 w0.heap.size (fun _ => True) cV L ∧ (MapAt w1 m L ∧ Fix p w1) ∧ kIs.R 75 w1 w0.heap.size (fun k => True ∧ some k ≠ s1V.ownBlock) fV F := by
  have hty := Kd.R_typed h.sup
  have hne : some p ≠ sV.ownBlock := Kd.R_ne h.sup h.blk (by decide)
  have hm : some m ≠ sV.ownBlock := fun e => by
    obtain ⟨cells, hc⟩ := hty m e.symm
    exact h.map.notCells hc rfl
  exact ⟨blk_grown h.blk hG hne, Kd.R_over' h.row hty (by decide) hG, ⟨h.map.grown hG hm, h.fix.grown hG hty (by decide) (by decide)⟩, Kd.R_after h.faces hG hat⟩
/-- What stands between the two appends: the super's row is s1V, the class's own interfaces lie in fac. -/
structure Mid (w0 : World) (p m : Nat) (cV : Value) (L : List Cl) (sV s1V : Value) (S1 : List Int) (fV : Value) (F : List (List Int)) (b9 : Nat) (fac : Value) (fs : List Int) (w : World) : Prop where
  below : Below w0.heap.size w0 w
  blk : w.heap[p]? = some (.cells #[cV, .map (some m), sV, fV, .slice none 0 0] 92 (0, 0))
  row : kCl.R 57 w w0.heap.size (fun _ => True) cV L
  map : MapAt w m L
  fix : Fix p w
  sup : kI.R 3 w w0.heap.size (fun _ => True) s1V S1
  faces : kIs.R 75 w w0.heap.size (fun k => True ∧ some k ≠ s1V.ownBlock) fV F
  fac : kI.R 3 w w0.heap.size (fun k => b9 ≤ k ∧ some k ≠ s1V.ownBlock) fac fs
  old : ∀ k, fV.ownBlock = some k → k < b9
theorem Mid.step {s1V : Value} {S1 : List Int} {b9 : Nat} {fac : Value} {fs : List Int} (h : Mid w0 p m cV L sV s1V S1 fV F b9 fac fs w) {w' : World} (hb : Below w.heap.size w w') : Mid w0 p m cV L sV s1V S1 fV F b9 fac fs w' :=
  ⟨below_weaken h.below h.below.size hb, blk_below h.blk hb, Kd.R_below h.row hb, h.map.below hb, h.fix.below hb, Kd.R_below h.sup hb, Kd.R_below h.faces hb, Kd.R_below h.fac hb, h.old⟩
theorem Mid.alloc {s1V : Value} {S1 : List Int} {b9 : Nat} {fac : Value} {fs : List Int} (h : Mid w0 p m cV L sV s1V S1 fV F b9 fac fs w) (o : Obj) : Mid w0 p m cV L sV s1V S1 fV F b9 fac fs (w.alloc o) := h.step (below_alloc (Below.refl _ _) o)
theorem Mid.drew {s1V : Value} {S1 : List Int} {b9 : Nat} {fac : Value} {fs : List Int} (h : Mid w0 p m cV L sV s1V S1 fV F b9 fac fs w) : Mid w0 p m cV L sV s1V S1 fV F b9 fac fs w.drew := h.step (below_drew (Below.refl _ _))
theorem JSt.mid (h : JSt w0 p m cV L sV S fV F w) {b9 : Nat} {fac : Value} {fs : List Int} (hR : kI.R 3 w b9 (fun _ => True) fac fs) (hs : ∀ k, sV.ownBlock = some k → k < b9) (hf : ∀ k, fV.ownBlock = some k → k < b9) (h9 : w0.heap.size ≤ b9)
    {s1V : Value} {S1 : List Int} {w1 : World} (hS : kI.R 3 w1 w0.heap.size (fun _ => True) s1V S1) (hB : Below w0.heap.size w0 w1) (hG : w.grownBy w1 sV.ownBlock) (hat : s1V.ownBlock = sV.ownBlock ∨ ∃ b, s1V.ownBlock = some b ∧ w.heap.size ≤ b) : Mid w0 p m cV L sV s1V S1 fV F b9 fac fs w1 := by
  obtain ⟨k1, k2, k3, k4⟩ := h.sup1 hG hat
  refine ⟨hB, k1, k2, k3.1, k3.2, hS, k4, ?_, hf⟩
  refine Kd.R_lower (Kd.R_mono (Kd.R_grown (Kd.R_bound hR) hG (fun k hk e => ?_)) (fun k hk => ⟨hk.2.1, fun e => ?_⟩)) h9
  · have := hs k e.symm
    have := hk.2.1
    omega
  · rcases hat with h1 | ⟨b, h1, h2⟩
    · have := hs k (h1 ▸ e.symm)
      have := hk.2.1
      omega
    · rw [h1] at e
      injection e with e
      have := hk.2.2.1
      omega
theorem keep_cell {W w1 : World} {sV : Value} {b9 : Nat} (hG : W.grownBy w1 sV.ownBlock) (hs : ∀ k, sV.ownBlock = some k → k < b9) : ∀ (b : Nat) (v : Value), b9 ≤ b → W.cell? ⟨b, 0, none⟩ = some v → w1.cell? ⟨b, 0, none⟩ = some v := by
  intro b v hb hc
  have hlt : b < W.heap.size := World.block_lt_of_cell? W _ hc
  have hne : some b ≠ sV.ownBlock := fun e => by have := hs b e.symm; omega
  exact (World.cell?_of_block (w := W) (hG.block b hlt hne)).trans hc
/-- .. and both are stored. -/
theorem Mid.put {s1V : Value} {S1 : List Int} {b9 : Nat} {fac : Value} {fs : List Int} (hp : w0.heap.size ≤ p) {w2 : World} {f1V : Value} {F1 : List (List Int)}
    (hF : kIs.R 75 w2 w0.heap.size (fun k => True ∧ some k ≠ s1V.ownBlock) f1V F1) (hB : Below w0.heap.size w0 w2) (hG : w.grownBy w2 fV.ownBlock) (h : Mid w0 p m cV L sV s1V S1 fV F b9 fac fs w) :
    JSt w0 p m cV L s1V S1 f1V F1 ((w2.setCell ⟨p, 2, none⟩ s1V).setCell ⟨p, 3, none⟩ f1V) ∧ w2.heap[p]? = some (.cells #[cV, .map (some m), sV, fV, .slice none 0 0] 92 (0, 0)) := by
  have hF0 := Kd.R_typed h.faces
  have hne : some p ≠ fV.ownBlock := Kd.R_ne h.faces h.blk (by decide)
  have hm : some m ≠ fV.ownBlock := fun e => by
    obtain ⟨cells, hc⟩ := hF0 m e.symm
    exact h.map.notCells hc rfl
  have hk := blk_grown h.blk hG hne
  have hM := h.map.grown hG hm
  have hpm : m ≠ p := h.map.notCells h.blk
  have hk2 := blk_put hk 2 s1V rfl
  have hr := Kd.R_over' h.row hF0 (by decide) hG
  have hs := Kd.R_over' h.sup hF0 (by decide) hG
  exact ⟨⟨(hB.setCell hp _).setCell hp _, blk_put hk2 3 f1V rfl, Kd.R_set (Kd.R_set hr hk (by decide) 2 _) hk2 (by decide) 3 _, (hM.move (Below.heap_setCell w2 ⟨p, 2, none⟩ s1V m hpm)).move (Below.heap_setCell _ ⟨p, 3, none⟩ f1V m hpm), ((h.fix.grown hG hF0 (by decide) (by decide)).set 2 s1V).set 3 f1V, Kd.R_set (Kd.R_set hs hk (by decide) 2 _) hk2 (by decide) 3 _, Kd.R_set (Kd.R_set hF hk (by decide) 2 _) hk2 (by decide) 3 _⟩, hk⟩
end
theorem infoInts : (Tryd.prog.info? 75).map (fun i => (i.zero, i.size, i.bytes)) = some (some (.slice none 0 0), 1, 24) := by kernel_rfl
/-- What joined comes to. -/
def JoinedPost (w0 : World) (p m : Nat) (cV : Value) (L : List Cl) (e : Ending) (w' : World) : Prop :=
  Below w0.heap.size w0 w' ∧ match joinErr L with
    | some s => e = .returned (.tuple #[.string s, .int .i64 90])
    | none => e = .returned (.tuple #[.string ⟨#[]⟩, .int .i64 0]) ∧ ∃ sV fV, JSt w0 p m cV L sV (supsL L L.length) fV (facesL L L.length) w'
end Go.Proofs.YtbogcknkkbnfnaaDoor
