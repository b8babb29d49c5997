/- Texts laid as one: Kt Ku Kv. -/
import Derived.Test.YtbogcknkkbnfnaaDoorKr
/- A set that is read: its view; whether what stands right above fits. -/
namespace Go.Proofs.YtbogcknkkbnfnaaDoor
open Go.RowKit Go.Proofs.YtbogcknkkbnfnaaDoorW.PrintWords Go.Maps Go.WideMaps

/-- A set, as it is read. -/
structure SV (p g N cap m gs cs gf cf : Nat) (aV : Value) (L : List Cl) (S : List Int) (F : List (List Int)) (w : World) : Prop where
  blk : w.heap[p]? = some (.cells #[.slice (some ⟨g, 0, none⟩) N cap, .map (some m), .slice (some ⟨gs, 0, none⟩) N cs, .slice (some ⟨gf, 0, none⟩) N cf, aV] 92 (0, 0))
  lenL : L.length = N
  lenS : S.length = N
  lenF : F.length = N
  big : N ≤ 72
  row : kCl.C w (some ⟨g, 0, none⟩) N L
  map : MapAt w m L
  sup : kI.C w (some ⟨gs, 0, none⟩) N S
  faces : kIs.C w (some ⟨gf, 0, none⟩) N F
  supR : ∀ i, i < N → S.getD i 0 = -1 ∨ (0 ≤ S.getD i 0 ∧ S.getD i 0 < N)
  facesR : ∀ i, i < N → (F.getD i []).length ≤ 8796093022207 ∧ ∀ f ∈ F.getD i [], 0 ≤ f ∧ f < N
section
variable {p g N cap m gs cs gf cf : Nat} {aV : Value} {L : List Cl} {S : List Int} {F : List (List Int)} {w : World}
theorem SV.step (h : SV p g N cap m gs cs gf cf aV L S F w) {w' : World} (hb : Below w.heap.size w w') : SV p g N cap m gs cs gf cf aV L S F w' :=
  ⟨blk_below h.blk hb, h.lenL, h.lenS, h.lenF, h.big, Kd.C_below h.row hb, h.map.below hb, Kd.C_below h.sup hb, Kd.C_below h.faces hb, h.supR, h.facesR⟩
theorem SV.alloc (h : SV p g N cap m gs cs gf cf aV L S F w) (o : Obj) : SV p g N cap m gs cs gf cf aV L S F (w.alloc o) := h.step (below_alloc (Below.refl _ _) o)
theorem SV.drewN (h : SV p g N cap m gs cs gf cf aV L S F w) (n : Nat) : SV p g N cap m gs cs gf cf aV L S F (w.drewN n) := h.step (pw_below_drewN (Below.refl _ _) n)
theorem SV.supAt (h : SV p g N cap m gs cs gf cf aV L S F w) (i : Nat) (hi : i < N) : w.cell? ⟨gs, i, none⟩ = some (.int .i64 (S.getD i 0)) := by
  have := C_scalar (h1 := fun _ => rfl) h.sup 0 i (by rw [h.lenS]; exact hi)
  rw [Nat.zero_add] at this
  exact this
theorem SV.facesAt (h : SV p g N cap m gs cs gf cf aV L S F w) (i : Nat) (hi : i < N) : ∃ A c, w.cell? ⟨gf, i, none⟩ = some (.slice A (F.getD i []).length c) ∧ (F.getD i []).length ≤ c ∧ kI.C w A (F.getD i []).length (F.getD i []) := by
  obtain ⟨ad, cc, e, _, hK, hc0⟩ := Kd.C_get h.faces ([] : List Int) (i : Int) (by omega) (by omega)
  cases e
  have hc : ∀ j u, cc[j]? = some u → w.cell? ((⟨gf, 0, none⟩ : Addr).add ((i : Int).toNat * 1 + j)) = some u := hc0
  obtain ⟨A0, c0, rfl, l0, g0⟩ := hK
  refine ⟨A0, c0, ?_, l0, g0⟩
  have := hc 0 _ rfl
  rw [add_plain] at this
  simpa using this
theorem SV.faceBit (h : SV p g N cap m gs cs gf cf aV L S F w) (i : Nat) (hi : i < N) : w.cell? ⟨g, i * 7 + 3, none⟩ = some (.bool (L.getD i zCl).face) := by
  obtain ⟨e, hE, _, _, _, c3, _⟩ := el_at h.row i hi
  rw [c3, hE.b]
end
theorem numI_range (L : List Cl) (s : ByteArray) (h : 0 < L.length) : 0 ≤ numI L s ∧ numI L s < L.length := by
  unfold numI
  cases e : numOf L s with
  | none => simp; omega
  | some i => have := numOf_lt e; simp; omega
theorem getD_range {α : Type} (f : Nat → α) (n i : Nat) (z : α) (hi : i < n) : ((List.range n).map f).getD i z = f i := by simp [List.getD, hi]
/-- What joined has laid is a set that is read. -/
theorem JSt.view {w0 : World} {p m : Nat} {cV : Value} {L : List Cl} {sV fV : Value} {w : World} (h : JSt w0 p m cV L sV (supsL L L.length) fV (facesL L L.length) w) (h8 : 0 < L.length) (hl : L.length ≤ 72) (hok : ∀ x ∈ L, clOk x) :
    ∃ g cap gs cs gf cf, cV = .slice (some ⟨g, 0, none⟩) L.length cap ∧ sV = .slice (some ⟨gs, 0, none⟩) L.length cs ∧ fV = .slice (some ⟨gf, 0, none⟩) L.length cf ∧ SV p g L.length cap m gs cs gf cf (.slice none 0 0) L (supsL L L.length) (facesL L L.length) w := by
  have l1 : (supsL L L.length).length = L.length := by simp [supsL]
  have l2 : (facesL L L.length).length = L.length := by simp [facesL]
  obtain ⟨g, cap, hc, _⟩ := Kd.R_form h.row h8
  obtain ⟨gs, cs, hs, _⟩ := Kd.R_form h.sup (by omega)
  obtain ⟨gf, cf, hf, _⟩ := Kd.R_form h.faces (by omega)
  rw [l1] at hs
  rw [l2] at hf
  have hr := h.row
  have hsu := h.sup
  have hfa := h.faces
  have hb := h.blk
  rw [hc, hs, hf] at hb
  rw [hc] at hr
  rw [hs] at hsu
  rw [hf] at hfa
  have k1 := (Kd.R_reads' hr).2.2
  have k2 := (Kd.R_reads' hsu).2.2
  have k3 := (Kd.R_reads' hfa).2.2
  rw [l1] at k2
  rw [l2] at k3
  refine ⟨g, cap, gs, cs, gf, cf, hc, hs, hf, hb, rfl, l1, l2, hl, k1, h.map, k2, k3, fun i hi => ?_, fun i hi => ?_⟩
  · rw [supsL, getD_range _ _ _ _ hi]
    unfold supI
    split
    · exact .inl rfl
    · exact .inr (numI_range L _ h8)
  · rw [facesL, getD_range _ _ _ _ hi]
    unfold fsI
    have hx : L.getD i zCl ∈ L := by simp [List.getD, hi]
    have := (hok _ hx).2.2.1
    refine ⟨by rw [List.length_map]; omega, fun f hf => ?_⟩
    obtain ⟨s, _, rfl⟩ := List.mem_map.1 hf
    exact numI_range L s h8

/-- Does what stands right above a class fit? -/
def faceAt (L : List Cl) (u : Int) : Bool := (L.getD u.toNat zCl).face
def upFit (L : List Cl) (S : List Int) (i : Nat) : Bool := S.getD i 0 == -1 || (!faceAt L (S.getD i 0) && (!(L.getD i zCl).face || S.getD i 0 == 0))
set_option maxRecDepth 100000 in
set_option maxHeartbeats 4000000 in
theorem upFits_any (p g N cap m gs cs gf cf : Nat) (aV : Value) (L : List Cl) (S : List Int) (F : List (List Int)) (w : World) (h : SV p g N cap m gs cs gf cf aV L S F w) (i : Nat) (hi : i < N) :
    Calls Tryd.prog 79 #[.pointer (some ⟨p, 0, none⟩), .int .i64 i] w fun e w' => e = .returned (.bool (upFit L S i)) ∧ w' = w := by
  have hn := h.big
  have HU : Hid (upFit L S i = (S.getD i 0 == -1 || (!faceAt L (S.getD i 0) && (!(L.getD i zCl).face || S.getD i 0 == 0)))) := rfl
  have c0 := blk_cell h.blk 0
  have c2 := blk_cell h.blk 2
  have d0 := h.supAt i hi
  have d1 := h.faceBit i hi
  have hr := h.supR i hi
  have H := hid h
  clear h
  have li : (i : Int) < N := by omega
  have HFA : Hid (∀ v : Nat, faceAt L (v : Int) = (L.getD v zCl).face) := fun v => rfl
  generalize (L.getD i zCl).face = bi at *
  generalize S.getD i 0 = u at *
  rcases hr with rfl | ⟨h0, h1⟩
  · clear d1
    go_enter Tryd.func79, Tryd.ntmps79
    go_wp2
    go_ret
    exact ⟨by rw [HU.out]; rfl, rfl⟩
  · obtain ⟨v, rfl⟩ := Int.eq_ofNat_of_zero_le h0
    have hv : v < N := by omega
    have d2 := H.out.faceBit v hv
    have b1 : ((v : Int) == -1) = false := beq_eq_false_iff_ne.2 (by omega)
    rw [HFA.out v] at HU
    generalize (L.getD v zCl).face = bv at *
    cases bv with
    | true =>
      clear d1
      go_enter Tryd.func79, Tryd.ntmps79
      go_wp2
      go_ret
      exact ⟨by rw [HU.out, b1]; rfl, rfl⟩
    | false =>
      cases bi with
      | false =>
        go_enter Tryd.func79, Tryd.ntmps79
        go_wp2
        go_ret
        exact ⟨by rw [HU.out, b1]; rfl, rfl⟩
      | true =>
        go_enter Tryd.func79, Tryd.ntmps79
        go_wp2
        go_ret
        exact ⟨by rw [HU.out, b1]; rfl, rfl⟩
end Go.Proofs.YtbogcknkkbnfnaaDoor

/- Whether a class's interfaces fit. -/
namespace Go.Proofs.YtbogcknkkbnfnaaDoor
open Go.RowKit Go.Proofs.YtbogcknkkbnfnaaDoorW.PrintWords Go.Maps Go.WideMaps

def faceBadAt (L : List Cl) (fs : List Int) (k : Nat) : Bool := !faceAt L (fs.getD k 0) || (fs.take k).contains (fs.getD k 0)
def faceFit (L : List Cl) (fs : List Int) : Bool := (List.range fs.length).all (fun k => !faceBadAt L fs k)
theorem faceFit_no {L : List Cl} {fs : List Int} {k : Nat} (hk : k < fs.length) (h : faceBadAt L fs k = true) : faceFit L fs = false := by
  unfold faceFit
  rw [List.all_eq_false]
  exact ⟨k, by simpa using hk, by rw [h]; decide⟩
theorem faceFit_yes {L : List Cl} {fs : List Int} (h : ∀ k, k < fs.length → faceBadAt L fs k = false) : faceFit L fs = true := by
  unfold faceFit
  rw [List.all_eq_true]
  exact fun k hk => by rw [h k (by simpa using hk)]; rfl
set_option maxRecDepth 100000 in
set_option maxHeartbeats 4000000 in
theorem facesFit_any (p g N cap m gs cs gf cf : Nat) (aV : Value) (L : List Cl) (S : List Int) (F : List (List Int)) (w : World) (h : SV p g N cap m gs cs gf cf aV L S F w) (i : Nat) (hi : i < N) :
    Calls Tryd.prog 81 #[.pointer (some ⟨p, 0, none⟩), .int .i64 i] w fun e w' => e = .returned (.bool (faceFit L (F.getD i []))) ∧ w' = w := by
  have hn := h.big
  have c0 := blk_cell h.blk 0
  have c3 := blk_cell h.blk 3
  obtain ⟨A, c, d0, hlc, hC⟩ := h.facesAt i hi
  obtain ⟨hfl, hfr⟩ := h.facesR i hi
  have HC := hid hC
  have HFR := hid hfr
  have H := hid h
  clear h hC hfr
  have li : (i : Int) < N := by omega
  generalize F.getD i [] = fs at *
  go_enter Tryd.func81, Tryd.ntmps81
  go_wp2
  go_loop [15] (fun v => ∃ k : Nat, k ≤ fs.length ∧ v = .int .i64 k ∧ Hid (∀ j, j < k → faceBadAt L fs j = false)) (fun v => fs.length - (intOf v).toNat)
  case atStart => exact ⟨0, by omega, rfl, fun j hj => by omega⟩
  obtain ⟨k, hk, rfl, HD⟩ := hrel
  by_cases hlt : k < fs.length
  · obtain ⟨b, off, hA⟩ := C_plain HC.out (by omega) (by decide)
    subst hA
    have hcell := C_scalar (h1 := fun _ => rfl) HC.out 0
    have e0 := hcell k hlt
    have hfm : fs.getD k 0 ∈ fs := by simp [List.getD, hlt]
    obtain ⟨r0, r1⟩ := HFR.out _ hfm
    obtain ⟨v, hv⟩ := Int.eq_ofNat_of_zero_le r0
    have hvN : v < N := by omega
    have d2 := H.out.faceBit v hvN
    have HB : Hid (faceBadAt L fs k = (!(L.getD v zCl).face || (fs.take k).contains (v : Int))) := by unfold faceBadAt faceAt; rw [hv]; rfl
    have HCT := hid (fun W (hW : W = w) => by subst hW; exact Tryd.slices_Contains_int b off k c fs (v : Int) W (by omega) (by omega) hcell)
    rw [hv] at e0
    clear hcell hfm r0 r1 hv
    generalize (L.getD v zCl).face = bv at *
    cases bv with
    | false =>
      have HBB := hid (show faceBadAt L fs k = true by rw [HB.out]; rfl)
      go_wp2
      go_ret
      exact ⟨by rw [faceFit_no hlt HBB.out]; rfl, rfl⟩
    | true =>
      cases hcn : (fs.take k).contains (v : Int) with
      | true =>
        have HBB := hid (show faceBadAt L fs k = true by rw [HB.out, hcn]; rfl)
        have HCN := hid hcn
        clear hcn
        go_wp2_with (go_at_call 66; refine (HCT.out _ rfl).mono ?_; rintro e w' ⟨rfl, rfl⟩; rw [HCN.out])
        go_ret
        exact ⟨by rw [faceFit_no hlt HBB.out]; rfl, rfl⟩
      | false =>
        have HBB := hid (show faceBadAt L fs k = false by rw [HB.out, hcn]; rfl)
        have HCN := hid hcn
        clear hcn
        go_wp2_with (go_at_call 66; refine (HCT.out _ rfl).mono ?_; rintro e w' ⟨rfl, rfl⟩; rw [HCN.out])
        go_round
        case rel => exact ⟨k + 1, by omega, by go_num, fun j hj => by
          by_cases e : j = k
          · rw [e]; exact HBB.out
          · exact HD.out j (by omega)⟩
        case measure => simp [intOf]; omega
  · have HY := hid (faceFit_yes (L := L) (fs := fs) (fun j hj => HD.out j (by omega)))
    go_wp2
    go_ret
    exact ⟨by rw [HY.out]; rfl, rfl⟩
end Go.Proofs.YtbogcknkkbnfnaaDoor

/- Rings: what climbing comes to, in plain words; the worlds it goes through. -/
namespace Go.Proofs.YtbogcknkkbnfnaaDoor
open Go.RowKit Go.Proofs.YtbogcknkkbnfnaaDoorW.PrintWords Go.Maps Go.WideMaps

/-- Those to which one step up leads. -/
def succI (S : List Int) (F : List (List Int)) (k : Nat) : List Int := S.getD k 0 :: F.getD k []
/-- One step at the least. -/
inductive Rch (S : List Int) (F : List (List Int)) : Nat → Nat → Prop
  | one {k u : Nat} : (u : Int) ∈ succI S F k → Rch S F k u
  | more {k u j : Nat} : (u : Int) ∈ succI S F k → Rch S F u j → Rch S F k j
def Fine (S : List Int) (F : List (List Int)) (i : Nat) (Sn : List Bool) (v : Nat) : Prop := ∀ u ∈ succI S F v, u ≠ (i : Int) ∧ (u = -1 ∨ Sn.getD u.toNat false = true)
def unseen (Sn : List Bool) : Nat := (Sn.filter (fun b => !b)).length
theorem unseen_set {Sn : List Bool} {u : Nat} (hu : u < Sn.length) (h : Sn.getD u false = false) : unseen (Sn.set u true) + 1 = unseen Sn := by
  induction Sn generalizing u with
  | nil => simp at hu
  | cons a l ih =>
    cases u with
    | zero =>
      simp at h
      subst h
      simp [unseen]
    | succ u =>
      simp at hu
      have := ih hu (by simpa using h)
      cases a <;> simp [unseen] at this ⊢ <;> omega
/-- What climbing from k answers. -/
structure ClimbOut (S : List Int) (F : List (List Int)) (i k : Nat) (Sn : List Bool) (b : Bool) (Sn1 : List Bool) : Prop where
  len : Sn1.length = Sn.length
  un : unseen Sn1 ≤ unseen Sn
  mono : ∀ j, Sn.getD j false = true → Sn1.getD j false = true
  yes : b = true → Rch S F k i
  no : b = false → Fine S F i Sn1 k ∧ ∀ v, Sn1.getD v false = true → Sn.getD v false = false → Fine S F i Sn1 v
/-- How far it has come: q of the steps up have been looked at. -/
structure ClimbAt (S : List Int) (F : List (List Int)) (i k q : Nat) (Sn Sn1 : List Bool) : Prop where
  len : Sn1.length = Sn.length
  un : unseen Sn1 ≤ unseen Sn
  mono : ∀ j, Sn.getD j false = true → Sn1.getD j false = true
  past : ∀ u ∈ (succI S F k).take q, u ≠ (i : Int) ∧ (u = -1 ∨ Sn1.getD u.toNat false = true)
  fine : ∀ v, Sn1.getD v false = true → Sn.getD v false = false → Fine S F i Sn1 v
section
variable {S : List Int} {F : List (List Int)} {i k q : Nat} {Sn Sn1 Sn2 : List Bool}
theorem ClimbAt.start (S : List Int) (F : List (List Int)) (i k : Nat) (Sn : List Bool) : ClimbAt S F i k 0 Sn Sn :=
  ⟨rfl, Nat.le_refl _, fun _ h => h, fun u hu => by simp at hu, fun v h1 h2 => by rw [h1] at h2; cases h2⟩
theorem ClimbAt.pass (h : ClimbAt S F i k q Sn Sn1) {u : Int} (hu : (succI S F k)[q]? = some u) (h1 : u ≠ (i : Int)) (h2 : u = -1 ∨ Sn1.getD u.toNat false = true) : ClimbAt S F i k (q + 1) Sn Sn1 := by
  refine ⟨h.len, h.un, h.mono, fun x hx => ?_, h.fine⟩
  rw [List.take_add_one, hu, List.mem_append] at hx
  rcases hx with hx | hx
  · exact h.past x hx
  · simp at hx; subst hx; exact ⟨h1, h2⟩
theorem getD_set_true {l : List Bool} {u j : Nat} (hu : u < l.length) : (l.set u true).getD j false = true ↔ j = u ∨ l.getD j false = true := by
  simp only [List.getD, List.getElem?_set]
  by_cases e : u = j
  · subst e; simp [hu]
  · rw [if_neg e]
    exact ⟨.inr, fun h => h.resolve_left (fun h => e h.symm)⟩
theorem ClimbAt.down (h : ClimbAt S F i k q Sn Sn1) {u : Nat} (hu : (succI S F k)[q]? = some (u : Int)) (h1 : (u : Int) ≠ (i : Int)) (hul : u < Sn1.length) (h2 : Sn1.getD u false = false) (c : ClimbOut S F i u (Sn1.set u true) false Sn2) : ClimbAt S F i k (q + 1) Sn Sn2 := by
  have hu2 : Sn2.getD u false = true := c.mono u ((getD_set_true hul).2 (.inl rfl))
  have m12 : ∀ j, Sn1.getD j false = true → Sn2.getD j false = true := fun j hj => c.mono j ((getD_set_true hul).2 (.inr hj))
  have mf : ∀ v, Fine S F i Sn1 v → Fine S F i Sn2 v := fun v hf x hx => ⟨(hf x hx).1, (hf x hx).2.imp id (m12 _)⟩
  obtain ⟨n1, n2⟩ := c.no rfl
  refine ⟨by rw [c.len, List.length_set, h.len], ?_, fun j hj => m12 j (h.mono j hj), fun x hx => ?_, fun v hv hs => ?_⟩
  · have := unseen_set hul h2
    have := c.un
    have := h.un
    omega
  · rw [List.take_add_one, hu, List.mem_append] at hx
    rcases hx with hx | hx
    · exact ⟨(h.past x hx).1, (h.past x hx).2.imp id (m12 _)⟩
    · simp at hx; subst hx; exact ⟨h1, .inr (by simpa using hu2)⟩
  · cases e : Sn1.getD v false with
    | true => exact mf v (h.fine v e hs)
    | false =>
      by_cases ev : v = u
      · subst ev; exact n1
      · refine n2 v hv ?_
        cases e2 : (Sn1.set u true).getD v false with
        | false => rfl
        | true =>
          rcases (getD_set_true hul).1 e2 with h | h
          · exact absurd h ev
          · rw [e] at h; cases h
theorem ClimbAt.lower (h : ClimbAt S F i k q Sn Sn1) {u : Nat} (hul : u < Sn1.length) (h2 : Sn1.getD u false = false) : unseen (Sn1.set u true) < unseen Sn := by
  have := unseen_set hul h2
  have := h.un
  omega
theorem ClimbAt.yes (h : ClimbAt S F i k q Sn Sn1) {u : Int} (hu : (succI S F k)[q]? = some u) (h1 : u = (i : Int)) : ClimbOut S F i k Sn true Sn1 :=
  ⟨h.len, h.un, h.mono, fun _ => .one (by rw [← h1]; exact List.mem_of_getElem? hu), fun h => by cases h⟩
theorem ClimbAt.yes2 (h : ClimbAt S F i k q Sn Sn1) {u : Nat} (hu : (succI S F k)[q]? = some (u : Int)) (hul : u < Sn1.length) (h2 : Sn1.getD u false = false) (c : ClimbOut S F i u (Sn1.set u true) true Sn2) : ClimbOut S F i k Sn true Sn2 := by
  refine ⟨by rw [c.len, List.length_set, h.len], ?_, fun j hj => c.mono j ((getD_set_true hul).2 (.inr (h.mono j hj))), fun _ => .more (List.mem_of_getElem? hu) (c.yes rfl), fun h => by cases h⟩
  have := unseen_set hul h2
  have := c.un
  have := h.un
  omega
theorem ClimbAt.no (h : ClimbAt S F i k q Sn Sn1) (hq : (succI S F k).length ≤ q) : ClimbOut S F i k Sn false Sn1 := by
  refine ⟨h.len, h.un, h.mono, (fun h => by cases h), fun _ => ⟨fun u hu => h.past u ?_, h.fine⟩⟩
  rw [List.take_of_length_le hq]
  exact hu
/-- Nothing seen ahead, and the answer: does i stand below itself? -/
theorem ClimbOut.ring {n : Nat} {b : Bool} (h : ClimbOut S F i i (List.replicate n false) b Sn1) : (b = true ↔ Rch S F i i) := by
  refine ⟨h.yes, fun hr => ?_⟩
  cases b with
  | true => rfl
  | false =>
    exfalso
    obtain ⟨n1, n2⟩ := h.no rfl
    have hall : ∀ v, Sn1.getD v false = true → Fine S F i Sn1 v := fun v hv => n2 v hv (by
      simp only [List.getD, List.getElem?_replicate]
      split <;> rfl)
    have key : ∀ a j, Rch S F a j → Fine S F i Sn1 a → j ≠ i := by
      intro a j hr
      induction hr with
      | one hu =>
        intro hf e
        exact (hf _ hu).1 (by rw [e])
      | more hu _ ih =>
        intro hf
        refine ih (hall _ ?_)
        rcases (hf _ hu).2 with h | h
        · omega
        · simpa using h
    exact key i i hr n1 rfl
end

/-- Only block g has changed, and what is new. -/
structure KpB (g : Nat) (w w' : World) : Prop where
  size : w.heap.size ≤ w'.heap.size
  block : ∀ i, i < w.heap.size → i ≠ g → w'.heap[i]? = w.heap[i]?
theorem KpB.refl (g : Nat) (w : World) : KpB g w w := ⟨Nat.le_refl _, fun _ _ _ => rfl⟩
theorem KpB.trans {g : Nat} {a b c : World} (h : KpB g a b) (k : KpB g b c) : KpB g a c := ⟨Nat.le_trans h.size k.size, fun i hi hg => (k.block i (Nat.lt_of_lt_of_le hi h.size) hg).trans (h.block i hi hg)⟩
theorem KpB.of {g : Nat} {a b : World} (h : Below a.heap.size a b) : KpB g a b := ⟨h.size, fun i hi _ => h.block i hi⟩
theorem KpB.blk {g i : Nat} {a b : World} {o : Obj} (h : KpB g a b) (hi : i ≠ g) (hb : a.heap[i]? = some o) : b.heap[i]? = some o := (h.block i (blk_lt hb) hi).trans hb
theorem KpB.row {α : Type} {d : Kd α} {e g t : Nat} {w w1 : World} {base : Nat} {ok : Nat → Prop} {v : Value} {xs : List α} {cells : Array Value} (hk : KpB g w w1) (h : d.R e w base ok v xs) (hg : w.heap[g]? = some (.cells cells t (0, 0))) (ht : ∀ q, q ∈ e :: d.E → q ≠ t) : d.R e w1 base ok v xs :=
  Kd.R_mono (Kd.R_step (Kd.R_types h hg ht) (fun k hk' hlt => hk.block k hlt hk'.2)) (fun _ hk => hk.1)
/-- The worlds of one look for a ring: b1 to b4 hold what is captured, gq what has been seen. -/
structure RS (w0 : World) (p i b1 b2 b3 b4 gq N cq : Nat) (tl : List Value) (Sn : List Bool) (w : World) : Prop where
  below : Below w0.heap.size w0 w
  k1 : w.heap[b1]? = some (.cells #[.pointer (some ⟨p, 0, none⟩)] 25 (0, 0))
  k2 : w.heap[b2]? = some (.cells #[.int .i64 i] 3 (0, 0))
  k3 : w.heap[b3]? = some (.cells #[.slice (some ⟨gq, 0, none⟩) N cq] 49 (0, 0))
  k4 : w.heap[b4]? = some (.cells #[.func (.func 127) #[] #[.pointer (some ⟨b1, 0, none⟩), .pointer (some ⟨b2, 0, none⟩), .pointer (some ⟨b3, 0, none⟩), .pointer (some ⟨b4, 0, none⟩)]] 62 (0, 0))
  seen : w.heap[gq]? = some (.cells (Sn.map Value.bool ++ tl).toArray 4 (0, 0))
  len : Sn.length = N
  base : w0.heap.size ≤ gq
section
variable {w0 w w' : World} {p i b1 b2 b3 b4 gq N cq : Nat} {tl : List Value} {Sn : List Bool}
theorem RS.step (h : RS w0 p i b1 b2 b3 b4 gq N cq tl Sn w) (hb : Below w.heap.size w w') : RS w0 p i b1 b2 b3 b4 gq N cq tl Sn w' :=
  ⟨below_weaken h.below h.below.size hb, blk_below h.k1 hb, blk_below h.k2 hb, blk_below h.k3 hb, blk_below h.k4 hb, blk_below h.seen hb, h.len, h.base⟩
theorem RS.cell (h : RS w0 p i b1 b2 b3 b4 gq N cq tl Sn w) (j : Nat) (hj : j < N) : w.cell? ⟨gq, j, none⟩ = some (.bool (Sn.getD j false)) := by
  rw [blk_cell h.seen j]
  have hl := h.len
  simp only [List.getElem?_toArray]
  rw [List.getElem?_append_left (by simp; omega), List.getElem?_map, List.getElem?_eq_getElem (by omega)]
  simp [List.getD, show j < Sn.length by omega]
theorem RS.mark (h : RS w0 p i b1 b2 b3 b4 gq N cq tl Sn w) (j : Nat) (hj : j < N) : RS w0 p i b1 b2 b3 b4 gq N cq tl (Sn.set j true) (w.setCell ⟨gq, j, none⟩ (.bool true)) ∧ KpB gq w (w.setCell ⟨gq, j, none⟩ (.bool true)) := by
  have hl := h.len
  have n1 := blk_ne h.k1 h.seen (by decide)
  have n2 := blk_ne h.k2 h.seen (by decide)
  have n3 := blk_ne h.k3 h.seen (by decide)
  have n4 := blk_ne h.k4 h.seen (by decide)
  refine ⟨⟨h.below.setCell h.base _, blk_far h.k1 n1 _, blk_far h.k2 n2 _, blk_far h.k3 n3 _, blk_far h.k4 n4 _, blk_put h.seen j _ ?_, by rw [List.length_set]; exact hl, h.base⟩, by simp [World.setCell], fun k _ hk => Below.heap_setCell w ⟨gq, j, none⟩ _ k hk⟩
  simp only [List.setIfInBounds_toArray]
  rw [List.set_append_left _ _ (by simp; omega), List.map_set]
end
end Go.Proofs.YtbogcknkkbnfnaaDoor

