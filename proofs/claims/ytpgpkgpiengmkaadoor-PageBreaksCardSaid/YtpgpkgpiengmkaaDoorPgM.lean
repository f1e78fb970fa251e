/-
  Layer 40 (page): boxes and pages in memory; are boxes few?
-/
import Derived.Test.YtpgpkgpiengmkaaDoorMkE
namespace Go.Proofs.YtpgpkgpiengmkaaDoor
open Go.RowKit
set_option linter.unusedVariables false
set_option linter.unusedSimpArgs false
attribute [local go_sem] B_data B_size

/-- a box, and where its anchors lie -/
structure Bx where
  tx : List UInt8
  h : Int
  g : Int
  kp : Bool
  fl : Bool
  an : List (List UInt8)
  A : Option Addr
  na : Nat
  ca : Nat
def bxF (b : Bx) : List Value := [.string (B b.tx), .int .i64 b.h, .int .i64 b.g, .bool b.kp, .bool b.fl, .slice b.A b.na b.ca]
theorem bxF_len (b : Bx) : (bxF b).length = 6 := rfl
structure BxAt (w : World) (M : Nat) (A : Option Addr) (n : Nat) (l : List Bx) : Prop where
  row : Rd w M 6 A n (l.flatMap bxF)
  an : ∀ b ∈ l, Rd w M 1 b.A b.na (strs b.an)
theorem BxAt.below {w w' : World} {M n : Nat} {A : Option Addr} {l : List Bx} (h : BxAt w M A n l) (hb : Below M w w') : BxAt w' M A n l := ⟨h.row.below hb, fun b hm => (h.an b hm).below hb⟩
theorem BxAt.more {w : World} {M M' n : Nat} {A : Option Addr} {l : List Bx} (h : BxAt w M A n l) (hM : M ≤ M') : BxAt w M' A n l := ⟨h.row.more hM, fun b hm => (h.an b hm).more hM⟩
theorem BxAt.step {w w' : World} {n : Nat} {A : Option Addr} {l : List Bx} (h : BxAt w w.heap.size A n l) (hb : Below w.heap.size w w') : BxAt w' w'.heap.size A n l := (h.below hb).more hb.size
theorem BxAt.len {w : World} {M n : Nat} {A : Option Addr} {l : List Bx} (h : BxAt w M A n l) : l.length = n := h.row.count bxF 6 bxF_len (by omega)
/-- the cells of the box at k -/
theorem BxAt.at6 {w : World} {M n k : Nat} {A : Option Addr} {l : List Bx} {b : Bx} (h : BxAt w M A n l) (hk : l[k]? = some b) :
    ∃ g o, A = some ⟨g, o, none⟩ ∧ g < M ∧ w.cell? ⟨g, o + k * 6, none⟩ = some (.string (B b.tx)) ∧ w.cell? ⟨g, o + k * 6 + 1, none⟩ = some (.int .i64 b.h) ∧ w.cell? ⟨g, o + k * 6 + 2, none⟩ = some (.int .i64 b.g) ∧ w.cell? ⟨g, o + k * 6 + 3, none⟩ = some (.bool b.kp) ∧ w.cell? ⟨g, o + k * 6 + 4, none⟩ = some (.bool b.fl) ∧ w.cell? ⟨g, o + k * 6 + 5, none⟩ = some (.slice b.A b.na b.ca) := by
  obtain ⟨g, o, e, hg, hc⟩ := h.row.elem bxF 6 bxF_len (by omega) hk
  exact ⟨g, o, e, hg, hc 0 _ rfl, hc 1 _ rfl, hc 2 _ rfl, hc 3 _ rfl, hc 4 _ rfl, hc 5 _ rfl⟩
/-- a page, and where its boxes lie -/
structure Pg where
  bs : List Int
  ht : Int
  A : Option Addr
  nb : Nat
  cb : Nat
def ints (l : List Int) : List Value := l.map (Value.int .i64)
theorem ints_len (l : List Int) : (ints l).length = l.length := by simp [ints]
def pgF (p : Pg) : List Value := [.slice p.A p.nb p.cb, .int .i64 p.ht]
theorem pgF_len (p : Pg) : (pgF p).length = 2 := rfl
structure PgAt (w : World) (M : Nat) (A : Option Addr) (n : Nat) (l : List Pg) : Prop where
  row : Rd w M 2 A n (l.flatMap pgF)
  bs : ∀ p ∈ l, Rd w M 1 p.A p.nb (ints p.bs)
theorem PgAt.below {w w' : World} {M n : Nat} {A : Option Addr} {l : List Pg} (h : PgAt w M A n l) (hb : Below M w w') : PgAt w' M A n l := ⟨h.row.below hb, fun b hm => (h.bs b hm).below hb⟩
theorem PgAt.more {w : World} {M M' n : Nat} {A : Option Addr} {l : List Pg} (h : PgAt w M A n l) (hM : M ≤ M') : PgAt w M' A n l := ⟨h.row.more hM, fun b hm => (h.bs b hm).more hM⟩
theorem PgAt.step {w w' : World} {n : Nat} {A : Option Addr} {l : List Pg} (h : PgAt w w.heap.size A n l) (hb : Below w.heap.size w w') : PgAt w' w'.heap.size A n l := (h.below hb).more hb.size
theorem PgAt.len {w : World} {M n : Nat} {A : Option Addr} {l : List Pg} (h : PgAt w M A n l) : l.length = n := h.row.count pgF 2 pgF_len (by omega)
theorem PgAt.at2 {w : World} {M n k : Nat} {A : Option Addr} {l : List Pg} {p : Pg} (h : PgAt w M A n l) (hk : l[k]? = some p) :
    ∃ g o, A = some ⟨g, o, none⟩ ∧ g < M ∧ w.cell? ⟨g, o + k * 2, none⟩ = some (.slice p.A p.nb p.cb) ∧ w.cell? ⟨g, o + k * 2 + 1, none⟩ = some (.int .i64 p.ht) := by
  obtain ⟨g, o, e, hg, hc⟩ := h.row.elem pgF 2 pgF_len (by omega) hk
  exact ⟨g, o, e, hg, hc 0 _ rfl, hc 1 _ rfl⟩
theorem ints_flat (l : List Int) : ints l = l.flatMap fun x => [.int .i64 x] := by
  induction l with
  | nil => rfl
  | cons a r ih => rw [List.flatMap_cons, ← ih]; rfl
theorem strs_flat (l : List (List UInt8)) : strs l = l.flatMap fun x => [.string (B x)] := by
  induction l with
  | nil => rfl
  | cons a r ih => rw [List.flatMap_cons, ← ih]; rfl
theorem Rd.ints_len {w : World} {M n : Nat} {A : Option Addr} {l : List Int} (h : Rd w M 1 A n (ints l)) : l.length = n := by
  have := h.1; rw [Go.Proofs.YtpgpkgpiengmkaaDoor.ints_len] at this; omega
theorem Rd.int {w : World} {M n k : Nat} {A : Option Addr} {l : List Int} {x : Int} (h : Rd w M 1 A n (ints l)) (hk : l[k]? = some x) :
    ∃ g o, A = some ⟨g, o, none⟩ ∧ g < M ∧ w.cell? ⟨g, o + k, none⟩ = some (.int .i64 x) := by
  rw [ints_flat] at h
  obtain ⟨g, o, e, hg, hc⟩ := h.elem (fun x => [.int .i64 x]) 1 (fun _ => rfl) (by omega) hk
  exact ⟨g, o, e, hg, by have := hc 0 _ rfl; simpa using this⟩
theorem Rd.strk {w : World} {M n k : Nat} {A : Option Addr} {l : List (List UInt8)} {x : List UInt8} (h : Rd w M 1 A n (strs l)) (hk : l[k]? = some x) :
    ∃ g o, A = some ⟨g, o, none⟩ ∧ g < M ∧ w.cell? ⟨g, o + k, none⟩ = some (.string (B x)) := by
  rw [strs_flat] at h
  obtain ⟨g, o, e, hg, hc⟩ := h.elem (fun x => [.string (B x)]) 1 (fun _ => rfl) (by omega) hk
  exact ⟨g, o, e, hg, by have := hc 0 _ rfl; simpa using this⟩

theorem take_one {α : Type} {l : List α} {j : Nat} {p : α} (h : l[j]? = some p) : l.take (j + 1) = l.take j ++ [p] := by
  obtain ⟨hj, e⟩ := List.getElem?_eq_some_iff.1 h
  rw [List.take_succ_eq_append_getElem hj, e]
theorem all_take {α : Type} {P : α → Prop} {l : List α} {j : Nat} {p : α} (h : ∀ x ∈ l.take j, P x) (hp : P p) (hk : l[j]? = some p) : ∀ x ∈ l.take (j + 1), P x := by
  rw [take_one hk]
  intro x hx
  rcases List.mem_append.1 hx with hx | hx
  · exact h x hx
  · rw [List.mem_singleton] at hx; subst hx; exact hp
def FewB (b : Bx) : Prop := b.an.length ≤ 6 ∧ b.tx.length ≤ 200 ∧ ∀ a ∈ b.an, a.length ≤ 100
structure Few (l : List Bx) : Prop where
  n : l.length ≤ 60
  b : ∀ b ∈ l, FewB b
def FPost (P : Prop) (w : World) (e : Ending) (w' : World) : Prop := ∃ b : Bool, e = .returned (.bool b) ∧ Below w.heap.size w w' ∧ (b = true → P)

set_option maxHeartbeats 4000000 in
set_option maxRecDepth 100000 in
theorem few_any (A : Option Addr) (n c : Nat) (l : List Bx) (w : World) (hx : BxAt w w.heap.size A n l) (hn : n ≤ 140737488355328) :
    Calls Tryd.prog 9 #[.slice A n c] w (FPost (Few l) w) := by
  have HL := Lib.hid hx.len
  go_enter Tryd.func9, Tryd.ntmps9
  go_wp2
  go_loopw [3] (fun i wr => ∃ j : Nat, j ≤ n ∧ j ≤ 60 ∧ i = .int .i64 j ∧ Below w.heap.size w wr ∧ Hid (∀ b ∈ l.take j, FewB b)) (fun i _ => n - (intOf i).toNat)
  case atStart => exact ⟨0, Nat.zero_le _, Nat.zero_le _, rfl, Below.refl _ _, fun b hb => by simp at hb⟩
  case round =>
    obtain ⟨j, hj, hj6, rfl, hbw, hfs⟩ := hrel
    by_cases hlt : j < n
    · by_cases h60 : j < 60
      · obtain ⟨p, hp⟩ := get_of (l := l) (k := j) (by rw [HL.out]; exact hlt)
        have hxr := hx.below hbw
        obtain ⟨g, o, rfl, hg, c0, c1, c2, c3, c4, c5⟩ := hxr.at6 hp
        have han := hxr.an p (List.mem_of_getElem? hp)
        have HNA := Lib.hid han.strs_length
        by_cases h6 : 6 < p.na
        · go_wp2
          go_ret
          exact ⟨false, rfl, hbw, nofun⟩
        by_cases h2 : 200 < p.tx.length
        · go_wp2
          go_ret
          exact ⟨false, rfl, hbw, nofun⟩
        go_wp2
        rename World => wo
        go_loopw [4] (fun i wr => ∃ k : Nat, k ≤ p.na ∧ i = .int .i64 k ∧ wr = wo ∧ Hid (∀ a ∈ p.an.take k, a.length ≤ 100)) (fun i _ => p.na - (intOf i).toNat)
        case atStart => exact ⟨0, Nat.zero_le _, rfl, rfl, fun b hb => by simp at hb⟩
        case round =>
          obtain ⟨k, hk, rfl, rfl, hfk⟩ := hrel
          by_cases hka : k < p.na
          · obtain ⟨a, ha⟩ := get_of (l := p.an) (k := k) (by rw [HNA.out]; exact hka)
            obtain ⟨g2, o2, hA2, hg2, d0⟩ := han.strk ha
            rw [hA2] at c5
            have i1 : (0 : Int) ≤ (k : Int) := by omega
            have i2 : (k : Int) < (p.na : Int) := by omega
            by_cases h1 : 100 < a.length
            · go_wp2
              go_ret
              exact ⟨false, rfl, hbw, nofun⟩
            · have HFK := Lib.hid (all_take hfk.out (by omega) ha)
              go_wp2
              go_roundw
              case rel => exact ⟨k + 1, by omega, by go_num, by trivial, HFK⟩
              case measure => simp [intOf]; omega
          · have HP : Hid (∀ b ∈ l.take (j + 1), FewB b) := all_take hfs.out (by
              refine ⟨by rw [HNA.out]; omega, by omega, ?_⟩
              have h := hfk.out
              rwa [List.take_of_length_le (by rw [HNA.out]; omega)] at h) hp
            go_wp2
            go_roundw
            case rel => exact ⟨j + 1, by omega, by omega, by go_num, hbw, HP⟩
            case measure => simp [intOf]; omega
      · have e60 : j = 60 := by omega
        by_cases hn6 : n ≤ 60
        · have : n = j := by omega
          omega
        · go_wp2
          go_ret
          exact ⟨_, rfl, hbw, fun h => absurd (of_decide_eq_true h) (by omega)⟩
    · have e : j = n := by omega
      subst e
      have HF : Few l := ⟨by rw [HL.out]; omega, by have h := hfs.out; rwa [List.take_of_length_le (by rw [HL.out]; omega)] at h⟩
      go_wp2
      go_ret
      exact ⟨_, rfl, hbw, fun _ => HF⟩
end Go.Proofs.YtpgpkgpiengmkaaDoor
