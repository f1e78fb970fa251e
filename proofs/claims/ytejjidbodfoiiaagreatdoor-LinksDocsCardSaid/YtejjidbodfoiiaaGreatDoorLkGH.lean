/-
  Layer 44 (links): the pages of files.
  Layer 44 (links): Check: the list of faults; what the closures share.
-/
import Derived.Test.YtejjidbodfoiiaaGreatDoorLkABC
import Derived.Test.YtejjidbodfoiiaaGreatDoorMkRf
namespace Go.Proofs.YtejjidbodfoiiaaGreatDoor
open Go.RowKit
set_option linter.unusedVariables false
set_option linter.unusedSimpArgs false
attribute [local go_sem] B_data B_size

def flC (f : Fl) : List Value := [.string (B f.1), .string (B f.2)]
theorem flC_len (f : Fl) : (flC f).length = 2 := rfl
/-- the cells of a page, or of none -/
def shV : Option NC → List Value
  | none => [.bool false, .string ⟨#[]⟩, .string ⟨#[]⟩, .slice none 0 0, .slice none 0 0]
  | some c => [.bool true, .string (B c.nm), .string (B c.tx), .slice c.A c.na c.ca, .slice c.K c.nk c.ck]
theorem shV_len (c : Option NC) : (shV c).length = 5 := by cases c <;> rfl
theorem Tryz.infoSheet : (Tryz.prog.info? 61).map (fun i => (i.zero, i.size, i.bytes)) = some (some (.agg #[.bool false, .string ⟨#[]⟩, .string ⟨#[]⟩, .slice none 0 0, .slice none 0 0]), 5, 88) := by kernel_rfl
theorem sh_rep (n : Nat) : ((List.replicate n (none : Option NC)).flatMap shV).toArray = madeCells #[.bool false, .string ⟨#[]⟩, .string ⟨#[]⟩, .slice none 0 0, .slice none 0 0] (n * 5) := by
  apply Array.ext
  · rw [List.size_toArray, row_len shV 5 shV_len, List.length_replicate]; simp [madeCells]
  · intro i h1 h2
    rw [List.size_toArray, row_len shV 5 shV_len, List.length_replicate] at h1
    have hr := Nat.mod_lt i (show 0 < 5 by omega)
    have e := row_at shV 5 shV_len (List.replicate n (none : Option NC)) (i / 5) (i % 5) none (by rw [List.getElem?_replicate]; rw [if_pos]; omega) hr
    rw [show i / 5 * 5 + i % 5 = i by omega] at e
    rw [List.getElem_toArray]
    obtain ⟨_, e1⟩ := List.getElem?_eq_some_iff.1 (e.trans (show (shV none)[i % 5]? = some ((shV none)[i % 5]'(by rw [shV_len]; exact hr)) from List.getElem?_eq_getElem _))
    rw [e1]
    simp only [madeCells, Array.getElem_map, Array.getElem_range]
    have h5 : i % 5 = 0 ∨ i % 5 = 1 ∨ i % 5 = 2 ∨ i % 5 = 3 ∨ i % 5 = 4 := by omega
    rcases h5 with h | h | h | h | h <;> simp [h, shV]
theorem run_makeSheets (n : Nat) (hn : n ≤ 1000000) (W : World) : (Instr.makeSlice 55 (.int .i64 (n : Int)) (.int .i64 (n : Int))).run Tryz.prog W =
    .ok (.slice (some ⟨W.heap.size, 0, none⟩) n n) (W.alloc (.cells ((List.replicate n (none : Option NC)).flatMap shV).toArray 61)) := by
  obtain ⟨i0, hi, hz0, hz1, hz2⟩ := info_parts Tryz.infoSheet
  have hb : (i0.bytes : Int) * (n : Int) ≤ 281474976710656 := by rw [hz2]; omega
  have hr := run_make (P := Tryz.prog) W 55 61 i0 _ Tryz.underlying55 hi hz0 .i64 .i64 n n (by omega) (by omega) hb (by omega)
  simp only [Int.toNat_natCast] at hr
  rw [hr, hz1, sh_rep]
  rfl
theorem set5 (P S : List Value) (a b c d e v0 v1 v2 v3 v4 : Value) : (((((P ++ a :: b :: c :: d :: e :: S).set P.length v0).set (P.length + 1) v1).set (P.length + 2) v2).set (P.length + 3) v3).set (P.length + 4) v4 = P ++ v0 :: v1 :: v2 :: v3 :: v4 :: S := by
  simp [List.set_append]
theorem heap_setA {w : World} {g k : Nat} {cur : Array Value} {t : TypeId} {fr : Nat × Nat} (u : Value) (h : w.heap[g]? = some (.cells cur t fr)) : (w.setCell ⟨g, k, none⟩ u).heap[g]? = some (.cells (cur.setIfInBounds k u) t fr) := by
  simp [World.setCell, Array.getElem?_modify, h]
theorem heap_set5 {w : World} {g : Nat} {cur : Array Value} {t : TypeId} {fr : Nat × Nat} (h : w.heap[g]? = some (.cells cur t fr)) (k : Nat) (v0 v1 v2 v3 v4 : Value) :
    (((((w.setCell ⟨g, k, none⟩ v0).setCell ⟨g, k + 1, none⟩ v1).setCell ⟨g, k + 2, none⟩ v2).setCell ⟨g, k + 3, none⟩ v3).setCell ⟨g, k + 4, none⟩ v4).heap[g]? = some (.cells (((((cur.setIfInBounds k v0).setIfInBounds (k + 1) v1).setIfInBounds (k + 2) v2).setIfInBounds (k + 3) v3).setIfInBounds (k + 4) v4) t fr) :=
  heap_setA _ (heap_setA _ (heap_setA _ (heap_setA _ (heap_setA _ h))))
/-- a block of pages -/
def ShB (w : World) (sb : Nat) (cs : List (Option NC)) : Prop := w.heap[sb]? = some (.cells (cs.flatMap shV).toArray 61 (0, 0))
theorem ShB.set {w : World} {sb : Nat} {cs : List (Option NC)} (h : ShB w sb cs) {j : Nat} (hj : j < cs.length) (c : NC) :
    ShB (((((w.setCell ⟨sb, j * 5, none⟩ (.bool true)).setCell ⟨sb, j * 5 + 1, none⟩ (.string (B c.nm))).setCell ⟨sb, j * 5 + 2, none⟩ (.string (B c.tx))).setCell ⟨sb, j * 5 + 3, none⟩ (.slice c.A c.na c.ca)).setCell ⟨sb, j * 5 + 4, none⟩ (.slice c.K c.nk c.ck)) sb (cs.set j (some c)) := by
  unfold ShB at *
  have hl : ((cs.take j).flatMap shV).length = j * 5 := by rw [row_len shV 5 shV_len, List.length_take]; congr 1; omega
  obtain ⟨a, b, c', d, e, hold⟩ : ∃ a b c' d e, shV cs[j] = [a, b, c', d, e] := by cases cs[j] <;> exact ⟨_, _, _, _, _, rfl⟩
  have e1 : cs.flatMap shV = (cs.take j).flatMap shV ++ a :: b :: c' :: d :: e :: (cs.drop (j + 1)).flatMap shV := by
    conv => lhs; rw [← List.take_append_drop j cs, List.drop_eq_getElem_cons hj]
    rw [List.flatMap_append, List.flatMap_cons, hold]; rfl
  have e2 : (cs.set j (some c)).flatMap shV = (cs.take j).flatMap shV ++ .bool true :: .string (B c.nm) :: .string (B c.tx) :: .slice c.A c.na c.ca :: .slice c.K c.nk c.ck :: (cs.drop (j + 1)).flatMap shV := by
    rw [List.set_eq_take_append_cons_drop, if_pos hj, List.flatMap_append, List.flatMap_cons]; rfl
  have e3 : ((((((cs.flatMap shV).toArray.setIfInBounds (j * 5) (.bool true)).setIfInBounds (j * 5 + 1) (.string (B c.nm))).setIfInBounds (j * 5 + 2) (.string (B c.tx))).setIfInBounds (j * 5 + 3) (.slice c.A c.na c.ca)).setIfInBounds (j * 5 + 4) (.slice c.K c.nk c.ck)) = ((cs.set j (some c)).flatMap shV).toArray := by
    simp only [List.setIfInBounds_toArray]
    rw [e2, e1, ← hl, set5]
  rw [← e3]
  exact heap_set5 h (j * 5) (.bool true) (.string (B c.nm)) (.string (B c.tx)) (.slice c.A c.na c.ca) (.slice c.K c.nk c.ck)
theorem ShB.cell {w : World} {sb : Nat} {cs : List (Option NC)} (h : ShB w sb cs) {j : Nat} {o : Option NC} (hj : cs[j]? = some o) (i : Nat) (u : Value) (hi : i < 5) (hu : (shV o)[i]? = some u) : w.cell? ⟨sb, j * 5 + i, none⟩ = some u := by
  unfold ShB at h
  rw [cell_of_row w sb _ _ _ _ h, List.getElem?_toArray, row_at shV 5 shV_len cs j i o hj hi]
  exact hu
theorem ShB.fz {w : World} {sb : Nat} {cs : List (Option NC)} (h : ShB w sb cs) (i : Nat) : w.frozen? ⟨sb, i, none⟩ = false := by unfold ShB at h; simp [World.frozen?, h]
/-- the page of a file, in memory -/
def ShAt (w : World) (sb : Nat) (f : Fl) (o : Option NC) : Prop := match sheet f with
  | none => o = none
  | some n => ∃ c, o = some c ∧ NdAt w (fun b => sb < b ∧ b < w.heap.size) n c
theorem ShAt.keep {w w' : World} {sb : Nat} {f : Fl} {o : Option NC} (h : ShAt w sb f o) (hs : w.heap.size ≤ w'.heap.size) (hb : ∀ b, sb < b → b < w.heap.size → w'.heap[b]? = w.heap[b]?) : ShAt w' sb f o := by
  unfold ShAt at *
  cases hx : sheet f with
  | none => rw [hx] at h; exact h
  | some n =>
    rw [hx] at h
    obtain ⟨c, e, hn⟩ := h
    exact ⟨c, e, NdAt.keep (fun b hb => ⟨hb.1, Nat.lt_of_lt_of_le hb.2 hs⟩) (fun b hlt => hb b hlt.1 hlt.2) n c hn⟩
theorem ShAt.none {w : World} {sb : Nat} {f : Fl} (h : sheet f = none) : ShAt w sb f none := by unfold ShAt; rw [h]
theorem ShAt.some {w : World} {sb : Nat} {f : Fl} {n : Nd} {c : NC} (h : sheet f = some n) (hn : NdAt w (fun b => sb < b ∧ b < w.heap.size) n c) : ShAt w sb f (some c) := by unfold ShAt; rw [h]; exact ⟨c, rfl, hn⟩
/-- pages, in memory -/
structure ShI (w : World) (sb : Nat) (fs : List Fl) (j : Nat) (cs : List (Option NC)) : Prop where
  sh : ShB w sb cs
  len : cs.length = fs.length
  at1 : ∀ i f o, i < j → fs[i]? = some f → cs[i]? = some o → ShAt w sb f o
theorem ShI.step {w w' : World} {sb : Nat} {fs : List Fl} {j : Nat} {cs : List (Option NC)} (h : ShI w sb fs j cs) (hb : Below w.heap.size w w') : ShI w' sb fs j cs :=
  ⟨(hb.block _ (Array.getElem?_eq_some_iff.1 h.sh).1).trans h.sh, h.len, fun i f o hi hf ho => (h.at1 i f o hi hf ho).keep hb.size fun b _ hlt => hb.block b hlt⟩
theorem ShI.lt {w : World} {sb : Nat} {fs : List Fl} {j : Nat} {cs : List (Option NC)} (h : ShI w sb fs j cs) : sb < w.heap.size := (Array.getElem?_eq_some_iff.1 h.sh).1
theorem ShI.none {w : World} {sb : Nat} {fs : List Fl} {j : Nat} {cs : List (Option NC)} (h : ShI w sb fs j cs) {f : Fl} (hs : sheet f = none) (hf : fs[j]? = some f) (ho : cs[j]? = some none) : ShI w sb fs (j + 1) cs := by
  refine ⟨h.sh, h.len, fun i f' o hi hf' ho' => ?_⟩
  by_cases hij : i < j
  · exact h.at1 i f' o hij hf' ho'
  · have : i = j := by omega
    subst this
    rw [hf] at hf'
    rw [ho] at ho'
    cases hf'
    cases ho'
    exact .none hs
theorem ShI.put {w w' : World} {sb : Nat} {fs : List Fl} {j : Nat} {cs : List (Option NC)} (h : ShI w sb fs j cs) {f : Fl} {n : Nd} {c : NC} (hs : sheet f = some n) (hf : fs[j]? = some f) (hsh : ShB w' sb (cs.set j (some c))) (hsz : w.heap.size ≤ w'.heap.size)
    (hk : ∀ b, sb < b → b < w.heap.size → w'.heap[b]? = w.heap[b]?) (hn : NdAt w' (fun b => sb < b ∧ b < w'.heap.size) n c) : ShI w' sb fs (j + 1) (cs.set j (some c)) := by
  refine ⟨hsh, by rw [List.length_set]; exact h.len, fun i f' o hi hf' ho' => ?_⟩
  by_cases hij : i < j
  · rw [List.getElem?_set_ne (by omega)] at ho'
    exact (h.at1 i f' o hij hf' ho').keep hsz hk
  · have : i = j := by omega
    subst this
    rw [hf] at hf'
    cases hf'
    rw [List.getElem?_set_self (by rw [h.len]; exact (List.getElem?_eq_some_iff.1 hf).1)] at ho'
    cases ho'
    exact .some hs hn
/-- what sheets hands back -/
def ShPost (fs : List Fl) (w : World) (e : Ending) (w' : World) : Prop := ∃ sb cs, e = .returned (.slice (some ⟨sb, 0, none⟩) fs.length fs.length) ∧ w.heap.size ≤ sb ∧ ShI w' sb fs fs.length cs ∧ Below w.heap.size w w'
set_option maxHeartbeats 4000000 in
set_option maxRecDepth 100000 in
theorem sheets_any (fs : List Fl) (A : Option Addr) (n c : Nat) (w : World) (h : Rd w w.heap.size 2 A n (fs.flatMap flC)) (hn : n ≤ 1000000) (hf : ∀ f ∈ fs, f.1.length ≤ 1000000 ∧ f.2.length ≤ 1000000) :
    Calls Tryz.prog 20 #[.slice A n c] w (ShPost fs w) := by
  have hlen : fs.length = n := h.count flC 2 flC_len (by omega)
  have hmk := run_makeSheets n hn w
  have hq := heap_alloc_new w (.cells ((List.replicate n (none : Option NC)).flatMap shV).toArray 61)
  have hb := below_alloc w (.cells ((List.replicate n (none : Option NC)).flatMap shV).toArray 61)
  generalize w.alloc (.cells ((List.replicate n (none : Option NC)).flatMap shV).toArray 61) = W at *
  have hI : ShI W w.heap.size fs 0 (List.replicate n none) := ⟨hq, by simp [hlen], fun i f o hi => by omega⟩
  have HF := Lib.hid hf
  clear hf hq
  go_enter Tryz.func20, Tryz.ntmps20
  go_wp2
  clear hmk
  go_loopw [14] (fun i wr => ∃ (j : Nat) (cs : List (Option NC)), j ≤ n ∧ i = .int .i64 j ∧ ShI wr w.heap.size fs j cs ∧ Hid (∀ i, j ≤ i → i < n → cs[i]? = some none) ∧ Below w.heap.size w wr) (fun i _ => n - (intOf i).toNat)
  case atStart => exact ⟨0, _, Nat.zero_le _, rfl, hI, fun i _ hi => by rw [List.getElem?_replicate, if_pos hi], hb⟩
  case round =>
    clear hI hb
    obtain ⟨j, cs, hj, rfl, hI, hz, hb⟩ := hrel
    have hsl := hb.size
    by_cases hlt : j < n
    · obtain ⟨f, hfj⟩ := get_of (l := fs) (k := j) (by rw [hlen]; exact hlt)
      obtain ⟨bb, o, rfl, hbm, hcell⟩ := (h.below hb).elem flC 2 flC_len (by omega) hfj
      have c0 : wr.cell? ⟨bb, o + j * 2, none⟩ = some (.string (B f.1)) := hcell 0 _ rfl
      have c1 : wr.cell? ⟨bb, o + j * 2 + 1, none⟩ = some (.string (B f.2)) := hcell 1 _ rfl
      obtain ⟨hf1, hf2⟩ := HF.out f (List.mem_of_getElem? hfj)
      have HN := Lib.hid (fun V => named_any f.1 V (by omega))
      have HP := Lib.hid (fun V => parse_any f.2 V (by omega))
      have hbA := hb.alloc hsl (.cells #[.string (B f.1), .string (B f.2)] 39)
      have hIA := hI.step (below_alloc wr (.cells #[.string (B f.1), .string (B f.2)] 39))
      clear hcell
      cases hnm : named f.1
      · rw [hnm] at HN
        go_wp2_with fail
        refine (HN.out _).mono ?_
        rintro e w1 ⟨rfl, rfl⟩
        have HX := Lib.hid (hIA.none (by unfold sheet; rw [hnm]; rfl) hfj (hz.out j (Nat.le_refl _) hlt))
        go_wp2
        go_roundw
        case rel => exact ⟨j + 1, cs, by omega, by go_num, HX.out, fun i hi hn => hz.out i (by omega) hn, hbA⟩
        case measure => simp [intOf]; omega
      · rw [hnm] at HN
        go_wp2_with fail
        refine (HN.out _).mono ?_
        rintro e w1 ⟨rfl, rfl⟩
        go_wp2_with fail
        have hsA : w.heap.size < (wr.alloc (.cells #[.string (B f.1), .string (B f.2)] 39)).heap.size := hIA.lt
        rcases hp : pTop f.2 with x | ⟨nd, rest⟩
        · have HX := Lib.hid (hIA.none (by unfold sheet; rw [hnm, if_pos rfl]; unfold readN; rw [hp]) hfj (hz.out j (Nat.le_refl _) hlt))
          rw [hp] at HP
          refine (HP.out _).mono ?_
          rintro e w2 ⟨hb2, rfl⟩
          have HX2 := HX.out.step hb2
          have hB2 := hbA.trans (hb2.mono (by omega))
          have hb3 := below_alloc w2 (.cells #[.string ⟨#[]⟩, .string ⟨#[]⟩, .slice none 0 0, .slice none 0 0] 65)
          have HX3 := HX2.step hb3
          have hB3 := hB2.trans (hb3.mono hB2.size)
          have hx0 : x ≠ 0 := by
            unfold pTop at hp
            split at hp
            · injection hp with hp; rw [← hp]; decide
            · exact pN_err hp
          have hx1 : (x == 0) = false := by simpa using hx0
          go_wp2
          go_roundw
          case rel => exact ⟨j + 1, cs, by omega, by go_num, HX3, fun i hi hn => hz.out i (by omega) hn, hB3⟩
          case measure => simp [intOf]; omega
        · have HX := Lib.hid (show sheet f = some nd by unfold sheet; rw [hnm, if_pos rfl]; unfold readN; rw [hp])
          rw [hp] at HP
          refine (HP.out _).mono ?_
          rintro e w2 ⟨hb2, nc, k, rfl, hnd, -, -⟩
          have hI2 := hIA.step hb2
          have hB2 := hbA.trans (hb2.mono (by omega))
          have hs2 := hb2.size
          have hb3 := below_alloc w2 (.cells #[.string (B nc.nm), .string (B nc.tx), .slice nc.A nc.na nc.ca, .slice nc.K nc.nk nc.ck] 65)
          have hI3 := hI2.step hb3
          have hB3 := hB2.trans (hb3.mono (by omega))
          have hnd3 := NdAt.keep (S' := fun b => w.heap.size < b ∧ b < (w2.alloc (.cells #[.string (B nc.nm), .string (B nc.tx), .slice nc.A nc.na nc.ca, .slice nc.K nc.nk nc.ck] 65)).heap.size) (fun b hlt => ⟨by omega, by have := hb3.size; omega⟩) (fun b hlt => hb3.block b hlt.2) nd nc hnd
          have hzj := hz.out j (Nat.le_refl _) hlt
          have z0 := hI3.sh.cell hzj 0 _ (by omega) rfl
          have z1 := hI3.sh.cell hzj 1 _ (by omega) rfl
          have z2 := hI3.sh.cell hzj 2 _ (by omega) rfl
          have z3 := hI3.sh.cell hzj 3 _ (by omega) rfl
          have z4 := hI3.sh.cell hzj 4 _ (by omega) rfl
          rw [Nat.add_zero] at z0
          have y0 := hI3.sh.fz (j * 5)
          have y1 := hI3.sh.fz (j * 5 + 1)
          have y2 := hI3.sh.fz (j * 5 + 2)
          have y3 := hI3.sh.fz (j * 5 + 3)
          have y4 := hI3.sh.fz (j * 5 + 4)
          have hset := hI3.sh.set (j := j) (by rw [hI3.len, hlen]; exact hlt) nc
          have hjn' : (j : Int) < (n : Int) := by omega
          have hrow := hfj
          have HP2 : Hid (ShI (((((( w2.alloc (.cells #[.string (B nc.nm), .string (B nc.tx), .slice nc.A nc.na nc.ca, .slice nc.K nc.nk nc.ck] 65)).setCell ⟨w.heap.size, j * 5, none⟩ (.bool true)).setCell ⟨w.heap.size, j * 5 + 1, none⟩ (.string (B nc.nm))).setCell ⟨w.heap.size, j * 5 + 2, none⟩ (.string (B nc.tx))).setCell ⟨w.heap.size, j * 5 + 3, none⟩ (.slice nc.A nc.na nc.ca)).setCell ⟨w.heap.size, j * 5 + 4, none⟩ (.slice nc.K nc.nk nc.ck)) w.heap.size fs (j + 1) (cs.set j (some nc))) := by
            refine hI3.put HX.out hfj hset (by simp [World.setCell]) (fun b hb1 hb2 => by rw [set_block (by omega), set_block (by omega), set_block (by omega), set_block (by omega), set_block (by omega)]) ?_
            refine NdAt.keep (fun b hlt => ⟨hlt.1, by simpa [World.setCell] using hlt.2⟩) (fun b hlt => by rw [set_block (by omega), set_block (by omega), set_block (by omega), set_block (by omega), set_block (by omega)]) nd nc hnd3
          have hB4 := ((((hB3.setCell (p := ⟨w.heap.size, j * 5, none⟩) (Nat.le_refl _) (.bool true)).setCell (p := ⟨w.heap.size, j * 5 + 1, none⟩) (Nat.le_refl _) (.string (B nc.nm))).setCell (p := ⟨w.heap.size, j * 5 + 2, none⟩) (Nat.le_refl _) (.string (B nc.tx))).setCell (p := ⟨w.heap.size, j * 5 + 3, none⟩) (Nat.le_refl _) (.slice nc.A nc.na nc.ca)).setCell (p := ⟨w.heap.size, j * 5 + 4, none⟩) (Nat.le_refl _) (.slice nc.K nc.nk nc.ck)
          clear hset
          go_wp2
          go_roundw
          case rel => exact ⟨j + 1, _, by omega, by go_num, HP2.out, fun i hi hn => by rw [List.getElem?_set_ne (by omega)]; exact hz.out i (by omega) hn, hB4⟩
          case measure => simp [intOf]; omega
    · go_wp2
      go_ret
      have hjn : j = n := by omega
      subst hjn
      exact ⟨_, cs, by rw [hlen]; rfl, Nat.le_refl _, by rw [hlen]; exact hI, hb⟩
end Go.Proofs.YtejjidbodfoiiaaGreatDoor
namespace Go.Proofs.YtejjidbodfoiiaaGreatDoor
open Go.RowKit
set_option linter.unusedVariables false
set_option linter.unusedSimpArgs false
attribute [local go_sem] B_data B_size

def ftC (f : Ft) : List Value := [.string (B f.1), .string (B f.2.1), .string (B f.2.2)]
theorem ftC_len (f : Ft) : (ftC f).length = 3 := rfl
def ftV (l : List Ft) : List Value := l.flatMap ftC
theorem ftV_snoc (l : List Ft) (x : Ft) : ftV l ++ ftC x = ftV (l ++ [x]) := by simp [ftV]
theorem ftV_append (a b : List Ft) : ftV a ++ ftV b = ftV (a ++ b) := by simp [ftV]
theorem Tryz.infoFault : (Tryz.prog.info? 36).map (fun i => (i.zero, i.size, i.bytes)) = some (some (.agg #[.string ⟨#[]⟩, .string ⟨#[]⟩, .string ⟨#[]⟩]), 3, 48) := by kernel_rfl
/-- a list in a box: nb the box, base where its rows begin -/
structure LF (w0 : World) (M nb base : Nat) (v : Value) (l : List Ft) (W : World) : Prop where
  keep : Below M w0 W
  oo : W.heap[nb]? = some (.cells #[v] 32 (0, 0))
  own : W.ownsRow base 36 3 v l.length (ftV l)
  ln : M ≤ nb
  ln2 : nb < base
  lb : base ≤ W.heap.size
section
variable {w0 : World} {M nb base : Nat} {v v' : Value} {l l' : List Ft} {W W' : World}
theorem LF.step (h : LF w0 M nb base v l W) (hM : M ≤ W.heap.size) (hb : Below W.heap.size W W') : LF w0 M nb base v l W' :=
  ⟨h.keep.trans (hb.mono hM), (hb.block _ (Array.getElem?_eq_some_iff.1 h.oo).1).trans h.oo, own_below h.own hb, h.ln, h.ln2, Nat.le_trans h.lb hb.size⟩
theorem LF.le (h : LF w0 M nb base v l W) : M ≤ W.heap.size := by have := h.ln; have := h.ln2; have := h.lb; omega
theorem LF.lt (h : LF w0 M nb base v l W) {k : Nat} (hk : ownO nb v k) : k < W.heap.size ∧ M ≤ k := by
  have h1 := h.ln
  have h2 := h.ln2
  have h3 := h.lb
  rcases hk with rfl | hk
  · omega
  · have := h.own.lt k hk
    omega
/-- a list that is longer -/
theorem LF.put {x : Ft} {w2 : World} (h : LF w0 M nb base v l W) (hown : w2.ownsRow base 36 3 v' (l.length + 1) (ftV l ++ ftC x)) (hg : W.grownBy w2 v.ownBlock)
    (hat : v'.ownBlock = v.ownBlock ∨ v'.ownBlock = some (W.heap.size + 1)) :
    LF w0 M nb base v' (l ++ [x]) (w2.setCell ⟨nb, 0, none⟩ v') ∧ Mv (ownO nb v) (ownO nb v') W (w2.setCell ⟨nb, 0, none⟩ v') := by
  have hk : Kp (ownO nb v) W (w2.setCell ⟨nb, 0, none⟩ v') := ((Kp.of_grown hg).mono fun i _ e => .inr e.symm.symm).setCell fun _ => .inl rfl
  have h1 := h.ln2
  have h2 := h.lb
  have hn : some nb ≠ v.ownBlock := fun e => by have := (h.own.lt nb e.symm).1; omega
  have ho2 : w2.heap[nb]? = some (.cells #[v] 32 (0, 0)) := (hg.block nb (Array.getElem?_eq_some_iff.1 h.oo).1 hn).trans h.oo
  have e1 : ftV l ++ ftC x = ftV (l ++ [x]) := ftV_snoc l x
  have e2 : l.length + 1 = (l ++ [x]).length := by simp
  rw [e1, e2] at hown
  refine ⟨⟨h.keep.trans (hk.below h.le fun k hk => (h.lt hk).2), one_set ho2, ?_, h.ln, h.ln2, Nat.le_trans h.lb hk.size⟩, hk, ?_⟩
  · refine hown.kept (grown_set w2 nb 0 v') (.inr ?_)
    intro e
    have := (hown.lt nb e).1
    omega
  · intro k hk
    rcases hk with rfl | hk
    · exact .inl (.inl rfl)
    · rcases hat with e | e
      · exact .inl (.inr (e ▸ hk))
      · rw [e] at hk
        injection hk with hk
        exact .inr (by omega)
end
/-- after a string was added to a list -/
def LFPo (w0 : World) (M nb base : Nat) (v : Value) (l : List Ft) (w : World) (e : Ending) (w' : World) : Prop := e = .returned (.tuple #[]) ∧ ∃ v', LF w0 M nb base v' l w' ∧ Mv (ownO nb v) (ownO nb v') w w'
set_option maxHeartbeats 4000000 in
set_option maxRecDepth 100000 in
theorem cadd_any (w0 : World) (M nb base : Nat) (v : Value) (l : List Ft) (k f t : Bs) (w : World) (h : LF w0 M nb base v l w) (hl : l.length ≤ 1000000000) :
    Calls Tryz.prog 34 #[.string (B k), .string (B f), .string (B t), .pointer (some ⟨nb, 0, none⟩)] w (LFPo w0 M nb base v (l ++ [(k, f, t)]) w) := by
  obtain ⟨A1, c1, rfl, hnc⟩ := own_form h.own
  have hoc : w.cell? ⟨nb, 0, none⟩ = some (.slice A1 l.length c1) := by simp [World.cell?, h.oo]
  have hln := h.ln2
  have hlb := h.lb
  go_enter Tryz.func34, Tryz.ntmps34
  go_wp2_with (at_builtin; (refine wpList_app2 rfl (.tmp 7) (.tmp 12) 32 rfl 36 (.agg #[.string ⟨#[]⟩, .string ⟨#[]⟩, .string ⟨#[]⟩]) 3 48 Tryz.underlying32 Tryz.infoFault rfl (by omega) w (ftC (k, f, t)) rfl (by intro u hu; simp [ftC] at hu; rcases hu with rfl | rfl | rfl <;> rfl) base (.slice A1 l.length c1) l.length (ftV l) h.own rfl rfl (by omega) (by omega) h.lb ?_))
  intro v' w2 hown2 hgr hb2 hat
  obtain ⟨hLI, hMv⟩ := h.put hown2 hgr hat
  have hn : some nb ≠ (Value.slice A1 l.length c1).ownBlock := fun e => by have := (h.own.lt nb e.symm).1; omega
  have ho2 : w2.heap[nb]? = some (.cells #[.slice A1 l.length c1] 32 (0, 0)) := (hgr.block nb (Array.getElem?_eq_some_iff.1 h.oo).1 hn).trans h.oo
  have oc2 : w2.cell? ⟨nb, 0, none⟩ = some (.slice A1 l.length c1) := by simp [World.cell?, ho2]
  have of2 : w2.frozen? ⟨nb, 0, none⟩ = false := by simp [World.frozen?, ho2]
  obtain ⟨A2, c2, rfl, hnc2⟩ := own_form hown2
  clear h hgr hb2 hat hown2 hoc
  go_wp2
  go_end0
  exact ⟨rfl, _, hLI, hMv⟩
end Go.Proofs.YtejjidbodfoiiaaGreatDoor
