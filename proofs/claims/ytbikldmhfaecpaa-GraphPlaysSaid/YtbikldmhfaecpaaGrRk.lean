/-
  Layer 48 (graph), the reference: eval: Value at any number; the header's second cell; what is kept.
-/
import Derived.Test.YtbikldmhfaecpaaGrRj
namespace Go.Proofs.Ytbikldmhfaecpaa
open Go.RowKit
set_option linter.unusedVariables false
set_option linter.unusedSimpArgs false
attribute [local go_sem] B_data B_size

set_option maxHeartbeats 4000000 in
set_option maxRecDepth 100000 in
theorem value_big (F : Int) (A : Option Addr) (n c : Nat) (inn : List Nm) (w : World) (hr : Rd w w.heap.size 1 A n (strs inn)) (hn : n ≤ 100000) (hs : ∀ x ∈ inn, x.length ≤ 1000) (hf : 3 ≤ F) :
    Calls Try.prog 41 #[.int .i64 F, .slice A n c] w fun e w' => e = .returned (ResV (valueX 3 inn)) ∧ Below w.heap.size w w' := by
  have hl : inn.length = n := hr.strs_length
  have HS := Lib.hid hs
  have HR := Lib.hid hr
  have HV : Hid (valueX 3 inn = valueX 3 inn) := rfl
  generalize hVV : valueX 3 inn = V at HV ⊢
  have HVV := Lib.hid hVV
  clear hs hr HV hVV
  have g0 : (F == 0) = false := by rw [beq_eq_false_iff_ne]; omega
  have g1 : (F == 1) = false := by rw [beq_eq_false_iff_ne]; omega
  have g2 : (F == 2) = false := by rw [beq_eq_false_iff_ne]; omega
  go_enter Try.func41, Try.ntmps41
  go_wp2
  go_loopg [6, 11] n (fun j s i wr => wr = w ∧ ∃ k : Nat, Hid (j = n - k) ∧ k ≤ n ∧ i = .int .i64 (k : Int) ∧ s = .string (B (inn.take k).flatten))
  case atStart => exact ⟨rfl, 0, rfl, Nat.zero_le _, rfl, rfl⟩
  case round =>
    obtain ⟨rfl, k, hj, hk, rfl, rfl⟩ := hrel
    by_cases hlt : k < n
    · have hlt2 : k < inn.length := by omega
      have hg : inn[k]? = some inn[k] := List.getElem?_eq_getElem hlt2
      have HF := Lib.hid (flat_snoc hlt2)
      have hx1 : (inn[k]).length ≤ 1000 := HS.out _ (List.getElem_mem hlt2)
      have hx2 : (inn.take k).flatten.length ≤ 100000000 := by
        have := flat_len (l := inn.take k) (M := 1000) fun x hx => HS.out x (List.mem_of_mem_take hx)
        rw [List.length_take] at this
        omega
      obtain ⟨b, o, rfl, _, hcx⟩ := rd_get HR.out hg
      generalize inn[k] = x at *
      generalize hq : (inn.take k).flatten = s at *
      have j1 : (0 : Int) ≤ (k : Int) := by omega
      have j2 : (k : Int) < (n : Int) := by omega
      have hBB : B s ++ B x = B (inn.take (k + 1)).flatten := by rw [← HF.out]; exact (B_app s x).symm
      go_wp2
      go_roundg (n - (k + 1))
      case rel => exact ⟨rfl, k + 1, rfl, by omega, by go_num, rfl⟩
      case measure => have := hj.out; omega
    · obtain rfl : k = n := by omega
      have HFL : Hid ((inn.take k).flatten = inn.flatten) := by rw [← hl, List.take_length]; rfl
      rw [HFL.out]
      have hfl : inn.flatten.length ≤ 100000000 := by have := flat_len HS.out; omega
      generalize hfs : inn.flatten = s at *
      have HFS := Lib.hid hfs
      clear hfs
      have hBs := B_size s
      have HX : Hid (V = ([120], 0)) := by rw [← HVV.out, valueX_3]; rfl
      go_wp2
      rw [HX.out]
      go_ret2
      exact ⟨rfl, Below.refl _ _⟩
theorem value_all (F : Int) (A : Option Addr) (n c : Nat) (inn : List Nm) (w : World) (hr : Rd w w.heap.size 1 A n (strs inn)) (hn : n ≤ 100000) (hs : ∀ x ∈ inn, x.length ≤ 1000) (hF : 0 ≤ F) :
    Calls Try.prog 41 #[.int .i64 F, .slice A n c] w fun e w' => e = .returned (ResV (valueX (fN F) inn)) ∧ Below w.heap.size w w' := by
  by_cases h3 : 3 ≤ F
  · have e : fN F = 3 := by unfold fN foI; rw [if_neg (by omega), if_neg (by omega), if_neg (by omega), if_neg (by omega)]; rfl
    rw [e]; exact value_big F A n c inn w hr hn hs h3
  · have e : F = ((fN F : Nat) : Int) ∧ fN F ≤ 3 := by
      have : F = 0 ∨ F = 1 ∨ F = 2 := by omega
      rcases this with rfl | rfl | rfl <;> decide
    have h := value_any (fN F) A n c inn w hr hn hs e.2
    rw [← e.1] at h
    exact h
/-- the two blocks that an evaluation writes -/
def Two (rb : Nat) (A : Option Addr) (b : Nat) : Prop := b = rb ∨ (Value.slice A 0 0).ownBlock = some b
theorem own_eq (A : Option Addr) (n c : Nat) : (Value.slice A n c).ownBlock = (Value.slice A 0 0).ownBlock := by cases A <;> rfl
section
variable {rb c N : Nat} {A : Option Addr} {L : List VM} {w0 w w' : World} {X : Nat → Prop}
theorem RG.runs (h : RG rb A c L N w0 w X) (N' : Nat) : RG rb A c L N' w0 (w.setCell ⟨rb, 1, none⟩ (.int .i64 (N' : Int))) X := by
  have hsz : (w.setCell ⟨rb, 1, none⟩ (.int .i64 (N' : Int))).heap.size = w.heap.size := by simp [World.setCell]
  have hk : ∀ b, b ≠ rb → (w.setCell ⟨rb, 1, none⟩ (.int .i64 (N' : Int))).heap[b]? = w.heap[b]? := fun b hb => Below.heap_setCell w ⟨rb, 1, none⟩ _ b hb
  have keep : ∀ {A' : Option Addr} {l : List Nm}, Dt w X rb (Value.slice A L.length c).ownBlock A' l → Dt (w.setCell ⟨rb, 1, none⟩ (.int .i64 (N' : Int))) X rb (Value.slice A L.length c).ownBlock A' l := fun hd => hd.keep (fun b _ h1 _ => hk b h1) (by rw [hsz]; exact Nat.le_refl _)
  refine ⟨fun b hx => by rw [hsz]; exact h.xs b hx, h.b.setCell (p := ⟨rb, 1, none⟩) (h.xs rb h.xr).1 _, ?_, h.xr, own_kept h.row (fun b e => hk b (h.rx b e).2), h.rx, fun v hv => ⟨keep (h.dt v hv).1, keep (h.dt v hv).2⟩⟩
  rw [heap_setCell_same w rb 1 _ _ _ h.hd]
  rfl
theorem Dt.two {A' : Option Addr} {l : List Nm} {n c' : Nat} (h : Dt w X rb (Value.slice A n c').ownBlock A' l) (k : KO (Two rb A) w w') (hx : ∀ b, X b → b < w.heap.size) : Rd w' w'.heap.size 1 A' l.length (strs l) := by
  have h2 := h.keep (w' := w') (fun b hb h1 h2 => k.1 b (hx b hb) (fun ht => by
    rcases ht with ht | ht
    · exact h1 ht
    · exact h2 (by rw [own_eq]; exact ht))) k.2
  exact h2.1
theorem KO.row {base n : Nat} {v : Value} {l : List Nm} {u : World} (k : KO (Two rb A) u w) (hu : ∀ b, Two rb A b → b < base) (ho : u.ownsRow base 9 1 v n (strs l)) : w.ownsRow base 9 1 v n (strs l) :=
  own_kept ho (fun b e => k.1 b (ho.lt b e).2 (fun ht => by have := hu b ht; have := (ho.lt b e).1; omega))
end
theorem Sh.rf {L L' : List VM} (h : Sh L L') (hn : (L.map (·.nm)).Nodup) (m : Nm) : rf (absR L') m = rf (absR L) m := by
  have hn' : (L'.map (·.nm)).Nodup := by rw [h.map (·.nm) (fun v v' e _ _ _ _ => e)]; exact hn
  unfold Go.Proofs.Ytbikldmhfaecpaa.rf
  cases hf : findI L m with
  | none =>
    have hf' : findI L' m = none := by
      rw [findI_none] at hf ⊢
      intro v' hv'
      obtain ⟨i, hi⟩ := List.mem_iff_getElem?.1 hv'
      obtain ⟨v, hv, e, _⟩ := h.back hi
      rw [e]; exact hf v (List.mem_of_getElem? hv)
    rw [(abs_none hf).2, (abs_none hf').2]
  | some i =>
    obtain ⟨v, hv, hvn, _⟩ := findI_some hf
    obtain ⟨v', a1, a2, a3, a4, a5, a6⟩ := h.2 i v hv
    have b1 := abs_some hn hv hvn
    have b2 := abs_some hn' a1 (a2.trans hvn)
    cases hr : v.rule with
    | false => rw [(b1.1 hr).2, (b2.1 (by rw [a3]; exact hr)).2]
    | true =>
      rw [(b1.2 hr).2, (b2.2 (by rw [a3]; exact hr)).2]
      simp [toR, a4, a5]
end Go.Proofs.Ytbikldmhfaecpaa
