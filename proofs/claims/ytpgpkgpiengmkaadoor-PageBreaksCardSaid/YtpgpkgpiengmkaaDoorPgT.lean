/-
  Layer 40 (page): rows that a call makes by their length; is there a false one? Does each box occur exactly once?
-/
import Derived.Test.YtpgpkgpiengmkaaDoorPgS
namespace Go.Proofs.YtpgpkgpiengmkaaDoor
open Go.RowKit
set_option linter.unusedVariables false
set_option linter.unusedSimpArgs false
attribute [local go_sem] B_data B_size

/-- block g holds the row f -/
def Row (W : World) (g : Nat) (t : TypeId) (n : Nat) (f : Nat → Value) : Prop := ∃ cur, W.heap[g]? = some (.cells cur t (0, 0)) ∧ cur.size = n ∧ ∀ i, i < n → cur[i]? = some (f i)
section
variable {W W' : World} {g n i : Nat} {t : TypeId} {f f' : Nat → Value}
theorem Row.lt (h : Row W g t n f) : g < W.heap.size := by obtain ⟨_, h, _⟩ := h; exact (Array.getElem?_eq_some_iff.1 h).1
theorem Row.cell (h : Row W g t n f) (hi : i < n) : W.cell? ⟨g, i, none⟩ = some (f i) := by
  obtain ⟨cur, h1, _, h3⟩ := h
  rw [cell_of_row W g i cur _ _ h1]; exact h3 i hi
theorem Row.free (h : Row W g t n f) (i : Nat) : W.frozen? ⟨g, i, none⟩ = false := by
  obtain ⟨cur, h1, _⟩ := h
  simp [World.frozen?, h1]
theorem Row.keep {R : Nat → Prop} (h : Row W g t n f) (hk : Kpt R W W') (hR : ¬ R g) : Row W' g t n f := by
  obtain ⟨cur, h1, r⟩ := h
  exact ⟨cur, hk.at h1 hR, r⟩
theorem Row.step (h : Row W g t n f) (hb : Below W.heap.size W W') : Row W' g t n f := h.keep (R := fun _ => False) (Kpt.of_below hb) id
theorem Row.set (h : Row W g t n f) (hi : i < n) (u : Value) (hf : f' i = u) (ho : ∀ j, j < n → j ≠ i → f' j = f j) : Row (W.setCell ⟨g, i, none⟩ u) g t n f' := by
  obtain ⟨cur, h1, h2, h3⟩ := h
  refine ⟨cur.setIfInBounds i u, heap_set u h1, by rw [Array.size_setIfInBounds]; exact h2, fun j hj => ?_⟩
  by_cases hji : j = i
  · subst hji
    rw [Array.getElem?_setIfInBounds_self_of_lt (by omega), hf]
  · rw [Array.getElem?_setIfInBounds_ne (Ne.symm hji), h3 j hj, ho j hj hji]
theorem Row.congr (h : Row W g t n f) (he : ∀ i, i < n → f' i = f i) : Row W g t n f' := by
  obtain ⟨cur, h1, h2, h3⟩ := h
  exact ⟨cur, h1, h2, fun i hi => by rw [h3 i hi, he i hi]⟩
theorem Row.made (W : World) (t : TypeId) (n : Nat) (v : Value) : Row (W.alloc (.cells (Array.replicate n v) t)) W.heap.size t n (fun _ => v) :=
  ⟨_, heap_alloc_new W _, by simp, fun i hi => by simp [hi]⟩
end
/-- the boxes of pages, in their order -/
def fl (ps : List Pg) : List Int := ps.flatMap (·.bs)
theorem fl_take {ps : List Pg} {j : Nat} {p : Pg} (h : ps[j]? = some p) : fl (ps.take (j + 1)) = fl (ps.take j) ++ p.bs := by
  unfold fl; rw [take_one h, List.flatMap_append]; simp
theorem fl_sub {ps : List Pg} {j k : Nat} {p : Pg} {x : Int} (h : ps[j]? = some p) (hx : p.bs[k]? = some x) : x ∈ fl ps := List.mem_flatMap.2 ⟨p, List.mem_of_getElem? h, List.mem_of_getElem? hx⟩
theorem fl_split {ps : List Pg} {j k : Nat} {p : Pg} {x : Int} (h : ps[j]? = some p) (hx : p.bs[k]? = some x) : ∃ r, fl ps = (fl (ps.take j) ++ p.bs.take k) ++ x :: r := by
  refine ⟨p.bs.drop (k + 1) ++ fl (ps.drop (j + 1)), ?_⟩
  have e : ps = ps.take j ++ p :: ps.drop (j + 1) := by rw [← drop_get h, List.take_append_drop]
  have e2 : p.bs = p.bs.take k ++ x :: p.bs.drop (k + 1) := by rw [← drop_get hx, List.take_append_drop]
  conv => lhs; rw [e]
  unfold fl
  rw [List.flatMap_append, List.flatMap_cons]
  conv => lhs; rw [e2]
  simp
def inR (n : Nat) (ps : List Pg) : Prop := ∀ x ∈ fl ps, 0 ≤ x ∧ x < (n : Int)
instance (n : Nat) (ps : List Pg) : Decidable (inR n ps) := by unfold inR; infer_instance
def allIn (n : Nat) (ps : List Pg) : Prop := ∀ i, i < n → ((i : Nat) : Int) ∈ fl ps
instance (n : Nat) (ps : List Pg) : Decidable (allIn n ps) := by unfold allIn; infer_instance
def sRange : List UInt8 := [114, 97, 110, 103, 101]
def sTwice : List UInt8 := [116, 119, 105, 99, 101]
def sMissing : List UInt8 := [109, 105, 115, 115, 105, 110, 103]
/-- the rules 1 to 3 -/
def cmpS (n : Nat) (ps : List Pg) : List UInt8 := if inR n ps then (if (fl ps).Nodup then (if allIn n ps then [] else sMissing) else sTwice) else sRange
def SPost (r : List UInt8) (w : World) (e : Ending) (w' : World) : Prop := e = .returned (.string (B r)) ∧ Below w.heap.size w w'
theorem s_post {r x : List UInt8} {w w' : World} (h : Hid (x = r)) (hb : Below w.heap.size w w') : SPost x w (.returned (.string (B r))) w' := ⟨by rw [h.out], hb⟩
set_option maxHeartbeats 4000000 in
set_option maxRecDepth 100000 in
theorem contains_any (g n : Nat) (f : Nat → Bool) (w : World) (h : Row w g 4 n (fun i => .bool (f i))) (hn : n ≤ 1000000) :
    Calls Tryd.prog 51 #[.slice (some ⟨g, 0, none⟩) n n, .bool false] w (BlPost (decide (∃ i, i < n ∧ f i = false)) w) := by
  have HH := Lib.hid h
  clear h
  have hI : Calls Tryd.prog 64 #[.slice (some ⟨g, 0, none⟩) n n, .bool false] w fun e w' => ∃ x : Int, e = .returned (.int .i64 x) ∧ w = w' ∧ (x = -1 ∧ (∀ i, i < n → f i = true) ∨ 0 ≤ x ∧ ∃ i, i < n ∧ f i = false) := by
    go_enter Tryd.func64, Tryd.ntmps64
    go_wp2
    go_loopw [8] (fun i wr => ∃ j : Nat, j ≤ n ∧ i = .int .i64 j ∧ w = wr ∧ Hid (∀ i, i < j → f i = true)) (fun i _ => n - (intOf i).toNat)
    case atStart => exact ⟨0, Nat.zero_le _, rfl, rfl, fun i hi => by omega⟩
    case round =>
      obtain ⟨j, hj, rfl, rfl, hr⟩ := hrel
      by_cases hlt : j < n
      · have d0 := HH.out.cell hlt
        have i1 : (0 : Int) ≤ (j : Int) := by omega
        have i2 : (j : Int) < (n : Int) := by omega
        cases hf : f j
        · rw [hf] at d0
          have HX : Hid (∃ i, i < n ∧ f i = false) := ⟨j, hlt, hf⟩
          clear hf
          go_wp2
          go_ret
          exact ⟨_, rfl, rfl, .inr ⟨i1, HX.out⟩⟩
        · rw [hf] at d0
          have HR : Hid (∀ i, i < j + 1 → f i = true) := fun i hi => by
            by_cases h : i < j
            · exact hr.out i h
            · have e : i = j := by omega
              rw [e]; exact hf
          clear hf hr
          go_wp2
          go_roundw
          case rel => exact ⟨j + 1, by omega, by go_num, by trivial, HR⟩
          case measure => simp [intOf]; omega
      · have e : j = n := by omega
        subst e
        go_wp2
        go_ret
        exact ⟨_, rfl, rfl, .inl ⟨rfl, hr.out⟩⟩
  have HI := Lib.hid hI
  clear hI
  go_enter Tryd.func51, Tryd.ntmps51
  go_wp2_with fail
  refine HI.out.mono ?_
  rintro e w1 ⟨x, rfl, rfl, hx⟩
  rcases hx with ⟨rfl, hx⟩ | ⟨hx0, hx⟩
  · have HX : Hid (decide (∃ i, i < n ∧ f i = false) = false) := decide_eq_false fun ⟨i, h1, h2⟩ => by rw [hx i h1] at h2; cases h2
    clear hx
    go_wp2
    go_ret
    exact bl_post HX (Below.refl _ _)
  · have HX : Hid (decide (∃ i, i < n ∧ f i = false) = true) := decide_eq_true hx
    have hd : decide (x ≥ 0) = true := by simpa using hx0
    clear hx
    go_wp2
    go_ret
    exact bl_post HX (Below.refl _ _)
end Go.Proofs.YtpgpkgpiengmkaaDoor
