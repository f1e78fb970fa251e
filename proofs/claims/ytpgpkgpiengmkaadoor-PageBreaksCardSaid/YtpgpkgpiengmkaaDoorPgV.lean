/-
  Layer 40 (page): do boxes ascend? Does one stand ahead? The program's.
-/
import Derived.Test.YtpgpkgpiengmkaaDoorPgU
namespace Go.Proofs.YtpgpkgpiengmkaaDoor
open Go.RowKit
set_option linter.unusedVariables false
set_option linter.unusedSimpArgs false
attribute [local go_sem] B_data B_size

def flB (l : List Bx) (x : Int) : Bool := (l[x.toNat]?.map (·.fl)).getD false
def kpB (l : List Bx) (x : Int) : Bool := (l[x.toNat]?.map (·.kp)).getD false
def htB (l : List Bx) (x : Int) : Int := (l[x.toNat]?.map (·.h)).getD 0
theorem flB_of {l : List Bx} {y : Nat} {b : Bx} (h : l[y]? = some b) : flB l (y : Int) = b.fl := by simp [flB, h]
theorem kpB_of {l : List Bx} {y : Nat} {b : Bx} (h : l[y]? = some b) : kpB l (y : Int) = b.kp := by simp [kpB, h]
theorem htB_of {l : List Bx} {y : Nat} {b : Bx} (h : l[y]? = some b) : htB l (y : Int) = b.h := by simp [htB, h]
theorem fl_drop {ps : List Pg} {j : Nat} {p : Pg} (h : ps[j]? = some p) : fl (ps.drop j) = p.bs ++ fl (ps.drop (j + 1)) := by
  rw [drop_get h]; rfl
/-- do the boxes that float (f), or the others, ascend, from last on? -/
def ascB (l : List Bx) (f : Bool) : Int → List Int → Bool
  | _, [] => true
  | last, x :: r => if flB l x != f then ascB l f last r else if x < last then false else ascB l f x r
set_option maxHeartbeats 8000000 in
set_option maxRecDepth 100000 in
theorem ascending_any (A E : Option Addr) (n c m d : Nat) (l : List Bx) (ps : List Pg) (f : Bool) (w : World) (hx : BxAt w w.heap.size A n l) (hp : PgAt w w.heap.size E m ps) (hn : n ≤ 1000) (hB : PgB ps) (hR : inR n ps) :
    Calls Tryd.prog 32 #[.slice A n c, .slice E m d, .bool f] w (BlPost (ascB l f (-1) (fl ps)) w) := by
  have HL := Lib.hid hx.len
  have HM := Lib.hid hp.len
  have hm : m ≤ 1000 := by rw [← HM.out]; exact hB.n
  have HR := Lib.hid hR
  clear hR
  go_enter Tryd.func32, Tryd.ntmps32
  go_wp2
  go_loopw [7, 14] (fun lv i wr => ∃ (j : Nat) (last : Int), j ≤ m ∧ i = .int .i64 j ∧ lv = .int .i64 last ∧ Below w.heap.size w wr ∧ Hid (ascB l f (-1) (fl ps) = ascB l f last (fl (ps.drop j)))) (fun _ i _ => m - (intOf i).toNat)
  case atStart => exact ⟨0, -1, Nat.zero_le _, rfl, rfl, Below.refl _ _, rfl⟩
  case round =>
    obtain ⟨j, last, hj, rfl, rfl, hbw, hr⟩ := hrel
    have hsz := hbw.size
    by_cases hlt : j < m
    · obtain ⟨p, hpj⟩ := get_of (l := ps) (k := j) (by rw [HM.out]; exact hlt)
      obtain ⟨g, o, rfl, hg, c0, c1⟩ := (hp.below hbw).at2 hpj
      have HPB := Lib.hid (hp.bs p (List.mem_of_getElem? hpj))
      have HPL := Lib.hid HPB.out.ints_len
      have hnb := hB.b p (List.mem_of_getElem? hpj)
      have hbA := hbw.alloc hsz (.cells #[.slice p.A p.nb p.cb, .int .i64 p.ht] 42)
      have HR0 : Hid (ascB l f (-1) (fl ps) = ascB l f last (p.bs.drop 0 ++ fl (ps.drop (j + 1)))) := by rw [hr.out, fl_drop hpj]; rfl
      clear hr
      go_wp2
      go_loopw [7, 21] (fun lv i wr => ∃ (k : Nat) (last : Int), k ≤ p.nb ∧ i = .int .i64 k ∧ lv = .int .i64 last ∧ Below w.heap.size w wr ∧ Hid (ascB l f (-1) (fl ps) = ascB l f last (p.bs.drop k ++ fl (ps.drop (j + 1))))) (fun _ i _ => p.nb - (intOf i).toNat)
      case atStart => exact ⟨0, last, Nat.zero_le _, rfl, rfl, hbA, HR0⟩
      case round =>
        clear hbA hbw c0 c1 hsz HR0
        obtain ⟨k, last, hk, rfl, rfl, hbw, hr⟩ := hrel
        have hsz := hbw.size
        by_cases hka : k < p.nb
        · obtain ⟨x, hxk⟩ := get_of (l := p.bs) (k := k) (by rw [HPL.out]; exact hka)
          obtain ⟨hx0, hxn⟩ := HR.out x (fl_sub hpj hxk)
          obtain ⟨y, rfl⟩ : ∃ y : Nat, x = (y : Int) := ⟨x.toNat, by omega⟩
          obtain ⟨g3, o3, hA3, _, e0⟩ := (HPB.out.below hbw).int hxk
          rw [hA3]
          have hyn : y < n := by omega
          obtain ⟨b, hb⟩ := get_of (l := l) (k := y) (by rw [HL.out]; exact hyn)
          obtain ⟨gb, ob, hA, _, b0, b1, b2, b3, b4, b5⟩ := (hx.below hbw).at6 hb
          subst hA
          have HE : Hid (ascB l f (-1) (fl ps) = if b.fl != f then ascB l f last (p.bs.drop (k + 1) ++ fl (ps.drop (j + 1))) else if (y : Int) < last then false else ascB l f (y : Int) (p.bs.drop (k + 1) ++ fl (ps.drop (j + 1)))) := by
            rw [hr.out, drop_get hxk, List.cons_append, ascB, flB_of hb]; rfl
          clear hr b0 b1 b2 b3 b5
          by_cases hf : b.fl = f
          · have q0 : (b.fl != f) = false := by simpa using hf
            have q2 : (b.fl == f) = true := by simpa using hf
            by_cases hyl : (y : Int) < last
            · have HX : Hid (ascB l f (-1) (fl ps) = false) := by rw [HE.out, q0, if_neg (by decide), if_pos hyl]; rfl
              clear HE hf
              go_wp2
              go_ret
              exact bl_post HX hbw
            · have HN : Hid (ascB l f (-1) (fl ps) = ascB l f (y : Int) (p.bs.drop (k + 1) ++ fl (ps.drop (j + 1)))) := by rw [HE.out, q0, if_neg (by decide), if_neg hyl]; rfl
              clear HE hf
              go_wp2
              go_roundw
              case rel => exact ⟨k + 1, (y : Int), by omega, by go_num, rfl, hbw, HN⟩
              case measure => simp [intOf]; omega
          · have q0 : (b.fl != f) = true := by simpa using hf
            have q2 : (b.fl == f) = false := by simpa using hf
            have HN : Hid (ascB l f (-1) (fl ps) = ascB l f last (p.bs.drop (k + 1) ++ fl (ps.drop (j + 1)))) := by rw [HE.out, q0, if_pos rfl]; rfl
            clear HE hf
            go_wp2
            go_roundw
            case rel => exact ⟨k + 1, last, by omega, by go_num, rfl, hbw, HN⟩
            case measure => simp [intOf]; omega
        · have HN : Hid (ascB l f (-1) (fl ps) = ascB l f last (fl (ps.drop (j + 1)))) := by
            rw [hr.out, List.drop_of_length_le (l := p.bs) (by rw [HPL.out]; omega), List.nil_append]; rfl
          clear hr
          go_wp2
          go_roundw
          case rel => exact ⟨j + 1, last, by omega, by go_num, rfl, hbw, HN⟩
          case measure => simp [intOf]; omega
    · have HX : Hid (ascB l f (-1) (fl ps) = true) := by rw [hr.out, List.drop_of_length_le (l := ps) (by rw [HM.out]; omega)]; rfl
      go_wp2
      go_ret
      exact bl_post HX hbw

/-- the page of each box: those of pages, from the k-th on -/
def onP (f : Nat → Int) (k : Int) (bs : List Int) : Nat → Int := fun i => if (i : Int) ∈ bs then k else f i
def onAll : List Pg → Nat → (Nat → Int) → Nat → Int
  | [], _, f => f
  | p :: r, k, f => onAll r (k + 1) (onP f k p.bs)
/-- does a box that floats stand on an earlier page than one in line ahead of it? -/
def aheadF (on : Nat → Int) : Nat → Int → List Bx → Bool
  | _, _, [] => false
  | i, latest, b :: r => if b.fl then (if on i < latest then true else aheadF on (i + 1) latest r) else aheadF on (i + 1) (if latest < on i then on i else latest) r
theorem on_row {f : Nat → Int} {k : Int} {L : List Int} {y : Nat} (i : Nat) (hi : i ≠ y) : onP f k (L ++ [(y : Int)]) i = onP f k L i := by
  unfold onP
  by_cases h : (i : Int) ∈ L
  · rw [if_pos (List.mem_append_left _ h), if_pos h]
  · rw [if_neg (fun e => by
      rcases List.mem_append.1 e with e | e
      · exact h e
      · rw [List.mem_singleton] at e; omega), if_neg h]
theorem on_new {f : Nat → Int} {k : Int} {L : List Int} {y : Nat} : onP f k (L ++ [(y : Int)]) y = k := by unfold onP; rw [if_pos (by simp)]
set_option maxHeartbeats 8000000 in
set_option maxRecDepth 100000 in
theorem ahead_any (A E : Option Addr) (n c m d : Nat) (l : List Bx) (ps : List Pg) (w : World) (hx : BxAt w w.heap.size A n l) (hp : PgAt w w.heap.size E m ps) (hn : n ≤ 1000) (hB : PgB ps) (hR : inR n ps) :
    Calls Tryd.prog 33 #[.slice A n c, .slice E m d] w (BlPost (aheadF (onAll ps 0 (fun _ => 0)) 0 0 l) w) := by
  have HL := Lib.hid hx.len
  have HM := Lib.hid hp.len
  have hm : m ≤ 1000 := by rw [← HM.out]; exact hB.n
  have HR := Lib.hid hR
  have hmk := run_makeInt n (by omega) w
  have hrow := Row.made w 3 n (.int .i64 0)
  have hbA := below_alloc w (.cells (Array.replicate n (.int .i64 0)) 3)
  clear hR
  generalize w.alloc (.cells (Array.replicate n (.int .i64 0)) 3) = w0 at *
  have HROW : Hid (∃ F : Nat → Int, Row w0 w.heap.size 3 n (fun i => .int .i64 (F i)) ∧ onAll ps 0 (fun _ => 0) = onAll (ps.drop 0) 0 F) := ⟨fun _ => 0, hrow, rfl⟩
  clear hrow
  go_enter Tryd.func33, Tryd.ntmps33
  go_wp2
  clear hmk
  go_loopw [18] (fun i wr => ∃ j : Nat, j ≤ m ∧ i = .int .i64 j ∧ Below w.heap.size w wr ∧ Hid (∃ F : Nat → Int, Row wr w.heap.size 3 n (fun i => .int .i64 (F i)) ∧ onAll ps 0 (fun _ => 0) = onAll (ps.drop j) j F)) (fun i _ => m - (intOf i).toNat)
  case atStart => exact ⟨0, Nat.zero_le _, rfl, hbA, HROW⟩
  case round =>
    clear hbA HROW
    obtain ⟨j, hj, rfl, hbw, hrow⟩ := hrel
    have hsz := hbw.size
    by_cases hlt : j < m
    · obtain ⟨p, hpj⟩ := get_of (l := ps) (k := j) (by rw [HM.out]; exact hlt)
      obtain ⟨g, o, rfl, hg, c0, c1⟩ := (hp.below hbw).at2 hpj
      have HPB := Lib.hid (hp.bs p (List.mem_of_getElem? hpj))
      have HPL := Lib.hid HPB.out.ints_len
      have hnb := hB.b p (List.mem_of_getElem? hpj)
      have hbA := hbw.alloc hsz (.cells #[.slice p.A p.nb p.cb, .int .i64 p.ht] 42)
      obtain ⟨F, hF, hE⟩ := hrow.out
      have HRA := Lib.hid ((hF.step (below_alloc _ (.cells #[.slice p.A p.nb p.cb, .int .i64 p.ht] 42))).congr (f' := fun i => .int .i64 (onP F j (p.bs.take 0) i)) (fun i _ => by simp [onP]))
      have HE : Hid (onAll ps 0 (fun _ => 0) = onAll (ps.drop (j + 1)) (j + 1) (onP F j p.bs)) := by rw [hE, drop_get hpj]; rfl
      clear hrow hF hE
      go_wp2
      go_loopw [26] (fun i wr => ∃ k : Nat, k ≤ p.nb ∧ i = .int .i64 k ∧ Below w.heap.size w wr ∧ Hid (Row wr w.heap.size 3 n (fun i => .int .i64 (onP F j (p.bs.take k) i)))) (fun i _ => p.nb - (intOf i).toNat)
      case atStart => exact ⟨0, Nat.zero_le _, rfl, hbA, HRA⟩
      case round =>
        clear hbA HRA hbw c0 c1 hsz
        obtain ⟨k, hk, rfl, hbw, hrow⟩ := hrel
        have hsz := hbw.size
        by_cases hka : k < p.nb
        · obtain ⟨x, hxk⟩ := get_of (l := p.bs) (k := k) (by rw [HPL.out]; exact hka)
          obtain ⟨hx0, hxn⟩ := HR.out x (fl_sub hpj hxk)
          obtain ⟨y, rfl⟩ : ∃ y : Nat, x = (y : Int) := ⟨x.toNat, by omega⟩
          obtain ⟨g3, o3, hA3, _, e0⟩ := (HPB.out.below hbw).int hxk
          rw [hA3]
          have hyn : y < n := by omega
          have d0 := hrow.out.cell hyn
          have df := hrow.out.free y
          have HRN : Hid (Row (wr.setCell ⟨w.heap.size, y, none⟩ (.int .i64 (j : Int))) w.heap.size 3 n (fun i => .int .i64 (onP F j (p.bs.take (k + 1)) i))) := by
            rw [take_one hxk]
            exact hrow.out.set hyn _ (by rw [on_new]) (fun i _ hi => congrArg (Value.int .i64) (on_row i hi))
          have hbN := hbw.setCell (p := ⟨w.heap.size, y, none⟩) (Nat.le_refl _) (.int .i64 (j : Int))
          clear hrow
          go_wp2
          go_roundw
          case rel => exact ⟨k + 1, by omega, by go_num, hbN, HRN⟩
          case measure => simp [intOf]; omega
        · have HJ : Hid (∃ F : Nat → Int, Row wr w.heap.size 3 n (fun i => .int .i64 (F i)) ∧ onAll ps 0 (fun _ => 0) = onAll (ps.drop (j + 1)) (j + 1) F) := by
            have h := hrow.out
            rw [List.take_of_length_le (l := p.bs) (by rw [HPL.out]; omega)] at h
            exact ⟨_, h, HE.out⟩
          clear hrow
          go_wp2
          go_roundw
          case rel => exact ⟨j + 1, by omega, by go_num, hbw, HJ⟩
          case measure => simp [intOf]; omega
    · obtain ⟨F, hF, hE⟩ := hrow.out
      have hE2 : onAll ps 0 (fun _ => 0) = F := by rw [hE, List.drop_of_length_le (l := ps) (by rw [HM.out]; omega)]; rfl
      have HE2 := Lib.hid hE2
      have HF := Lib.hid hF
      clear hF hE hE2 hrow
      go_wp2
      go_loopw [10, 38] (fun lv i wr => ∃ (j : Nat) (la : Int), j ≤ n ∧ i = .int .i64 j ∧ lv = .int .i64 la ∧ Below w.heap.size w wr ∧ Hid (Row wr w.heap.size 3 n (fun i => .int .i64 (F i))) ∧ Hid (aheadF F 0 0 l = aheadF F j la (l.drop j))) (fun _ i _ => n - (intOf i).toNat)
      case atStart => exact ⟨0, 0, Nat.zero_le _, rfl, rfl, hbw, HF, rfl⟩
      case round =>
        clear HF hbw hsz hlt
        obtain ⟨j, la, hj, rfl, rfl, hbw, HF, hr⟩ := hrel
        have hsz := hbw.size
        by_cases hlt : j < n
        · obtain ⟨b, hb⟩ := get_of (l := l) (k := j) (by rw [HL.out]; exact hlt)
          obtain ⟨gb, ob, hA, _, b0, b1, b2, b3, b4, b5⟩ := (hx.below hbw).at6 hb
          subst hA
          have hbA := hbw.alloc hsz (.cells #[.string (B b.tx), .int .i64 b.h, .int .i64 b.g, .bool b.kp, .bool b.fl, .slice b.A b.na b.ca] 45)
          have hfA := HF.out.step (below_alloc wr (.cells #[.string (B b.tx), .int .i64 b.h, .int .i64 b.g, .bool b.kp, .bool b.fl, .slice b.A b.na b.ca] 45))
          have d0 := hfA.cell hlt
          have HFA := Lib.hid hfA
          have HE : Hid (aheadF F 0 0 l = if b.fl then (if F j < la then true else aheadF F (j + 1) la (l.drop (j + 1))) else aheadF F (j + 1) (if la < F j then F j else la) (l.drop (j + 1))) := by rw [hr.out, drop_get hb]; rfl
          clear hr hfA HF
          generalize F j = fj at *
          cases hf : b.fl
          · have HN : Hid (aheadF F 0 0 l = aheadF F (j + 1) (if la < fj then fj else la) (l.drop (j + 1))) := by rw [HE.out, hf, if_neg (by decide)]; rfl
            rw [hf] at b4 hbA HFA d0
            clear HE hf
            go_wp2
            go_roundw
            case rel => exact ⟨j + 1, (if la < fj then fj else la), by omega, by go_num, rfl, hbA, HFA, HN⟩
            case measure => simp [intOf]; omega
          · rw [hf] at b4 hbA HFA d0
            by_cases hl : fj < la
            · have HX : Hid (aheadF (onAll ps 0 (fun _ => 0)) 0 0 l = true) := by rw [HE2.out, HE.out, hf, if_pos rfl, if_pos hl]; rfl
              clear HE hf
              go_wp2
              go_ret
              exact bl_post HX hbA
            · have HN : Hid (aheadF F 0 0 l = aheadF F (j + 1) la (l.drop (j + 1))) := by rw [HE.out, hf, if_pos rfl, if_neg hl]; rfl
              clear HE hf
              go_wp2
              go_roundw
              case rel => exact ⟨j + 1, la, by omega, by go_num, rfl, hbA, HFA, HN⟩
              case measure => simp [intOf]; omega
        · have HX : Hid (aheadF (onAll ps 0 (fun _ => 0)) 0 0 l = false) := by rw [HE2.out, hr.out, List.drop_of_length_le (l := l) (by rw [HL.out]; omega)]; rfl
          go_wp2
          go_ret
          exact bl_post HX hbw
end Go.Proofs.YtpgpkgpiengmkaaDoor
