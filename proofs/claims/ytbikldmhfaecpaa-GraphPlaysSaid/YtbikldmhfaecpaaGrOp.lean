/-
  Layer 48 (graph): calls in memory (publisherlaw48.Op); small, deep, rule.
-/
import Derived.Test.YtbikldmhfaecpaaGrO
import Derived.Deep.RegionHeld3
namespace Go.Proofs.Ytbikldmhfaecpaa
open Go.RowKit
set_option linter.unusedVariables false
set_option linter.unusedSimpArgs false
attribute [local go_sem] B_data B_size

section
variable {α : Type} (f : α → List Value) (sz : Nat) (hf : ∀ a, (f a).length = sz)
include hf
theorem row_len (l : List α) : (l.flatMap f).length = l.length * sz := by
  induction l with
  | nil => simp
  | cons a r ih => rw [List.flatMap_cons, List.length_append, ih, hf, List.length_cons, Nat.succ_mul]; omega
theorem row_at (l : List α) (k j : Nat) (x : α) (hk : l[k]? = some x) (hj : j < sz) : (l.flatMap f)[k * sz + j]? = (f x)[j]? := by
  induction l generalizing k with
  | nil => simp at hk
  | cons a r ih =>
    rw [List.flatMap_cons]
    cases k with
    | zero =>
      have e : a = x := by simpa using hk
      subst e
      rw [Nat.zero_mul, Nat.zero_add, List.getElem?_append_left (by rw [hf]; exact hj)]
    | succ k =>
      have hk : r[k]? = some x := by simpa using hk
      rw [List.getElem?_append_right (by rw [hf, Nat.succ_mul]; omega), hf, ← ih k hk]
      congr 1
      rw [Nat.succ_mul]; omega
theorem Rd.elem {w : World} {M n k : Nat} {A : Option Addr} {l : List α} {x : α} (h : Rd w M sz A n (l.flatMap f)) (hsz : 0 < sz) (hk : l[k]? = some x) :
    ∃ b o, A = some ⟨b, o, none⟩ ∧ b < M ∧ ∀ j u, (f x)[j]? = some u → w.cell? ⟨b, o + k * sz + j, none⟩ = some u := by
  have hkl : k < l.length := (List.getElem?_eq_some_iff.1 hk).1
  have hl := h.1
  rw [row_len f sz hf] at hl
  have hn : l.length = n := Nat.eq_of_mul_eq_mul_right hsz hl
  obtain ⟨ad, e, hb, hc⟩ := h.2 (by omega)
  obtain ⟨b, o, spot⟩ := ad
  have hpos : 0 < (l.flatMap f).length := by
    rw [row_len f sz hf]
    exact Nat.mul_pos (by omega) hsz
  have hx0 := hc 0 _ (List.getElem?_eq_getElem hpos)
  have hsp : spot = none := by simpa [Addr.add] using World.cell?_spot hx0
  subst hsp
  refine ⟨b, o, e, hb, fun j u hj => ?_⟩
  have hjs : j < sz := by have := (List.getElem?_eq_some_iff.1 hj).1; rw [hf] at this; exact this
  have := hc (k * sz + j) u (by rw [row_at f sz hf l k j x hk hjs]; exact hj)
  rw [addr_lit] at this
  rw [Nat.add_assoc]
  exact this
theorem Rd.count {w : World} {M n : Nat} {A : Option Addr} {l : List α} (h : Rd w M sz A n (l.flatMap f)) (hsz : 0 < sz) : l.length = n := by
  have hl := h.1
  rw [row_len f sz hf] at hl
  exact Nat.eq_of_mul_eq_mul_right hsz hl
end
theorem get_of {α : Type} {l : List α} {k : Nat} (h : k < l.length) : ∃ x, l[k]? = some x := ⟨l[k], List.getElem?_eq_getElem h⟩
theorem take_one {α : Type} {l : List α} {j : Nat} {p : α} (h : l[j]? = some p) : l.take (j + 1) = l.take j ++ [p] := by
  obtain ⟨hj, e⟩ := List.getElem?_eq_some_iff.1 h
  rw [List.take_succ_eq_append_getElem hj, e]
theorem all_take {α : Type} {P : α → Prop} {l : List α} {j : Nat} {p : α} (h : ∀ x ∈ l.take j, P x) (hp : P p) (hk : l[j]? = some p) : ∀ x ∈ l.take (j + 1), P x := by
  rw [take_one hk]
  intro x hx
  rcases List.mem_append.1 hx with hx | hx
  · exact h x hx
  · rw [List.mem_singleton] at hx; subst hx; exact hp
theorem strs_flat (l : List (List UInt8)) : strs l = l.flatMap fun x => [.string (B x)] := by
  induction l with
  | nil => rfl
  | cons a r ih => rw [List.flatMap_cons, ← ih]; rfl
theorem Rd.strk {w : World} {M n k : Nat} {A : Option Addr} {l : List (List UInt8)} {x : List UInt8} (h : Rd w M 1 A n (strs l)) (hk : l[k]? = some x) :
    ∃ g o, A = some ⟨g, o, none⟩ ∧ g < M ∧ w.cell? ⟨g, o + k, none⟩ = some (.string (B x)) := by
  rw [strs_flat] at h
  obtain ⟨g, o, e, hg, hc⟩ := h.elem (fun x => [.string (B x)]) 1 (fun _ => rfl) (by omega) hk
  exact ⟨g, o, e, hg, by have := hc 0 _ rfl; simpa using this⟩
/-- a call, and where its needs lie -/
structure OpR where
  K : Int
  nm : Nm
  vl : Nm
  nd : List Nm
  F : Int
  A : Option Addr
  na : Nat
  ca : Nat
def opF (b : OpR) : List Value := [.int .i64 b.K, .string (B b.nm), .string (B b.vl), .slice b.A b.na b.ca, .int .i64 b.F]
theorem opF_len (b : OpR) : (opF b).length = 5 := rfl
structure OpAt (w : World) (M : Nat) (A : Option Addr) (n : Nat) (l : List OpR) : Prop where
  row : Rd w M 5 A n (l.flatMap opF)
  nd : ∀ b ∈ l, Rd w M 1 b.A b.na (strs b.nd)
  le : ∀ b ∈ l, b.na ≤ b.ca
theorem OpAt.below {w w' : World} {M n : Nat} {A : Option Addr} {l : List OpR} (h : OpAt w M A n l) (hb : Below M w w') : OpAt w' M A n l := ⟨h.row.below hb, fun b hm => (h.nd b hm).below hb, h.le⟩
theorem OpAt.more {w : World} {M M' n : Nat} {A : Option Addr} {l : List OpR} (h : OpAt w M A n l) (hM : M ≤ M') : OpAt w M' A n l := ⟨h.row.more hM, fun b hm => (h.nd b hm).more hM, h.le⟩
theorem OpAt.len {w : World} {M n : Nat} {A : Option Addr} {l : List OpR} (h : OpAt w M A n l) : l.length = n := h.row.count opF 5 opF_len (by omega)
/-- the cells of the call at k -/
theorem OpAt.at5 {w : World} {M n k : Nat} {A : Option Addr} {l : List OpR} {b : OpR} (h : OpAt w M A n l) (hk : l[k]? = some b) :
    ∃ g o, A = some ⟨g, o, none⟩ ∧ g < M ∧ w.cell? ⟨g, o + k * 5, none⟩ = some (.int .i64 b.K) ∧ w.cell? ⟨g, o + k * 5 + 1, none⟩ = some (.string (B b.nm)) ∧ w.cell? ⟨g, o + k * 5 + 2, none⟩ = some (.string (B b.vl)) ∧ w.cell? ⟨g, o + k * 5 + 3, none⟩ = some (.slice b.A b.na b.ca) ∧ w.cell? ⟨g, o + k * 5 + 4, none⟩ = some (.int .i64 b.F) := by
  obtain ⟨g, o, e, hg, hc⟩ := h.row.elem opF 5 opF_len (by omega) hk
  exact ⟨g, o, e, hg, hc 0 _ rfl, hc 1 _ rfl, hc 2 _ rfl, hc 3 _ rfl, hc 4 _ rfl⟩
def FewO (b : OpR) : Prop := b.nd.length ≤ 4 ∧ b.nm.length ≤ 40 ∧ b.vl.length ≤ 40 ∧ ∀ a ∈ b.nd, a.length ≤ 40
structure Few (l : List OpR) : Prop where
  n : l.length ≤ 40
  b : ∀ b ∈ l, FewO b
def FPost (P : Prop) (w : World) (e : Ending) (w' : World) : Prop := ∃ b : Bool, e = .returned (.bool b) ∧ Below w.heap.size w w' ∧ (b = true → P)

set_option maxHeartbeats 4000000 in
set_option maxRecDepth 100000 in
theorem small_any (A : Option Addr) (n c : Nat) (l : List OpR) (w : World) (hx : OpAt w w.heap.size A n l) (hn : n ≤ 140737488355328) :
    Calls Try.prog 8 #[.slice A n c] w (FPost (Few l) w) := by
  have HL := Lib.hid hx.len
  by_cases h60 : 40 < n
  · go_enter Try.func8, Try.ntmps8
    go_wp2
    go_ret
    exact ⟨false, rfl, Below.refl _ _, nofun⟩
  go_enter Try.func8, Try.ntmps8
  go_wp2
  go_loopw [3] (fun i wr => ∃ j : Nat, j ≤ n ∧ i = .int .i64 j ∧ Below w.heap.size w wr ∧ Hid (∀ b ∈ l.take j, FewO b)) (fun i _ => n - (intOf i).toNat)
  case atStart => exact ⟨0, Nat.zero_le _, rfl, Below.refl _ _, fun b hb => by simp at hb⟩
  case round =>
    obtain ⟨j, hj, rfl, hbw, hfs⟩ := hrel
    by_cases hlt : j < n
    · obtain ⟨p, hp⟩ := get_of (l := l) (k := j) (by rw [HL.out]; exact hlt)
      have hxr := hx.below hbw
      obtain ⟨g, o, rfl, hg, c0, c1, c2, c3, c4⟩ := hxr.at5 hp
      have han := hxr.nd p (List.mem_of_getElem? hp)
      have HNA := Lib.hid han.strs_length
      by_cases h1 : 40 < p.nm.length
      · go_wp2
        go_ret
        exact ⟨false, rfl, hbw, nofun⟩
      by_cases h2 : 40 < p.vl.length
      · go_wp2
        go_ret
        exact ⟨false, rfl, hbw, nofun⟩
      by_cases h6 : 4 < p.na
      · go_wp2
        go_ret
        exact ⟨false, rfl, hbw, nofun⟩
      go_wp2
      rename World => wo
      go_loopw [4] (fun i wr => ∃ k : Nat, k ≤ p.na ∧ i = .int .i64 k ∧ wr = wo ∧ Hid (∀ a ∈ p.nd.take k, a.length ≤ 40)) (fun i _ => p.na - (intOf i).toNat)
      case atStart => exact ⟨0, Nat.zero_le _, rfl, rfl, fun b hb => by simp at hb⟩
      case round =>
        obtain ⟨k, hk, rfl, rfl, hfk⟩ := hrel
        by_cases hka : k < p.na
        · obtain ⟨a, ha⟩ := get_of (l := p.nd) (k := k) (by rw [HNA.out]; exact hka)
          obtain ⟨g2, o2, hA2, hg2, d0⟩ := han.strk ha
          rw [hA2] at c3
          have i1 : (0 : Int) ≤ (k : Int) := by omega
          have i2 : (k : Int) < (p.na : Int) := by omega
          by_cases h1 : 40 < a.length
          · go_wp2
            go_ret
            exact ⟨false, rfl, hbw, nofun⟩
          · have HFK := Lib.hid (all_take hfk.out (by omega) ha)
            go_wp2
            go_roundw
            case rel => exact ⟨k + 1, by omega, by go_num, by trivial, HFK⟩
            case measure => simp [intOf]; omega
        · have HP : Hid (∀ b ∈ l.take (j + 1), FewO b) := all_take hfs.out (by
            refine ⟨by rw [HNA.out]; omega, by omega, by omega, ?_⟩
            have h := hfk.out
            rwa [List.take_of_length_le (by rw [HNA.out]; omega)] at h) hp
          go_wp2
          go_roundw
          case rel => exact ⟨j + 1, by omega, by go_num, hbw, HP⟩
          case measure => simp [intOf]; omega
    · have e : j = n := by omega
      subst e
      have HF : Few l := ⟨by rw [HL.out]; omega, by have h := hfs.out; rwa [List.take_of_length_le (by rw [HL.out]; omega)] at h⟩
      go_wp2
      go_ret
      exact ⟨_, rfl, hbw, fun _ => HF⟩
set_option maxHeartbeats 4000000 in
set_option maxRecDepth 100000 in
theorem deep_any (A : Option Addr) (n c : Nat) (l : List OpR) (w : World) (hx : OpAt w w.heap.size A n l) (hn : n ≤ 140737488355328) :
    Calls Try.prog 9 #[.slice A n c] w (FPost True w) := by
  have HL := Lib.hid hx.len
  go_enter Try.func9, Try.ntmps9
  go_wp2
  go_loopw [3, 4] (fun m i wr => ∃ j q : Nat, j ≤ n ∧ q ≤ j ∧ i = .int .i64 j ∧ m = .int .i64 q ∧ Below w.heap.size w wr) (fun _ i _ => n - (intOf i).toNat)
  case atStart => exact ⟨0, 0, Nat.zero_le _, Nat.le_refl _, rfl, rfl, Below.refl _ _⟩
  case round =>
    obtain ⟨j, q, hj, hq, rfl, rfl, hbw⟩ := hrel
    by_cases hlt : j < n
    · obtain ⟨p, hp⟩ := get_of (l := l) (k := j) (by rw [HL.out]; exact hlt)
      have hxr := hx.below hbw
      obtain ⟨g, o, rfl, hg, c0, c1, c2, c3, c4⟩ := hxr.at5 hp
      by_cases hK : p.K = 1
      · by_cases h6 : 1 < p.na
        · rw [hK] at c0
          go_wp2
          go_roundw
          case rel => exact ⟨j + 1, q + 1, by omega, by omega, by go_num, by go_num, hbw⟩
          case measure => simp [intOf]; omega
        · rw [hK] at c0
          go_wp2
          go_roundw
          case rel => exact ⟨j + 1, q, by omega, by omega, by go_num, rfl, hbw⟩
          case measure => simp [intOf]; omega
      · have hK2 : (p.K == 1) = false := beq_eq_false_iff_ne.2 hK
        go_wp2
        go_roundw
        case rel => exact ⟨j + 1, q, by omega, by omega, by go_num, rfl, hbw⟩
        case measure => simp [intOf]; omega
    · have e : j = n := by omega
      subst e
      go_wp2
      go_ret
      exact ⟨_, rfl, hbw, fun _ => trivial⟩
end Go.Proofs.Ytbikldmhfaecpaa
