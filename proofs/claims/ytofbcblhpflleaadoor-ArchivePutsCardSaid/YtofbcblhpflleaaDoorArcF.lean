/-
  Layer 35 (archive): whether there is an archive of files, the program's side.
-/
import Derived.Test.YtofbcblhpflleaaDoorArcE
import Derived.Test.YtofbcblhpflleaaDoorMap
namespace Go.Proofs.YtofbcblhpflleaaDoor
open Go.RowKit
set_option linter.unusedVariables false
attribute [local go_sem] B_data B_size

/-- a map that is being filled -/
def MapAt (M : Nat) (w0 : World) (b : Nat) (kvs : List (List UInt8 × Value)) (w : World) : Prop := SMap w b kvs ∧ Below M w0 w ∧ M ≤ b
theorem MapAt.below {M b : Nat} {w0 w w' : World} {kvs : List (List UInt8 × Value)} (h : MapAt M w0 b kvs w) (hb : Below w.heap.size w w') (hM : M ≤ w.heap.size) : MapAt M w0 b kvs w' :=
  ⟨h.1.below hb h.1.lt, h.2.1.trans (hb.mono hM), h.2.2⟩
theorem wpList_upd {P : Program} {w : World} {ops : Array Oper} {rest : List Oper} {o : Oper} {a : Act} {Q : Exit → Act → World → Prop} (hgd : o.guard = none) (T K E : TypeId) (m k v : Operand) (ho : o.op = .mapUpdate T m k v)
    (hT : P.underlying T = some (.map K E)) (hK : P.underlying K = some .string) (M : Nat) (w0 : World) (b : Nat) (kvs : List (List UInt8 × Value)) (hs : MapAt M w0 b kvs w) (hm : a.eval m = .map (some b)) (kl : List UInt8) (hk : a.eval k = .string (B kl)) (val : Value) (hv : a.eval v = val) (hn : lookL kl kvs = none)
    (h : ∀ w', MapAt M w0 b (kvs ++ [(kl, val)]) w' → wpList P ops Q rest (a.put o.dst undef) w') :
    wpList P ops Q (o :: rest) a w := by
  refine wpList_plain hgd fun K' hK' => ?_
  obtain ⟨w', hrun, r1, r2⟩ := SMap.put hT hK hs.1 kl val hn
  unfold Oper.wp
  simp [execOp, ho, hm, hk, hv, hrun, Result.andThen]
  refine hK' _ _ (h w' ⟨r1, hs.2.1.grown r2 (Nat.le_of_lt (Nat.lt_of_le_of_lt hs.2.2 hs.1.lt)) (fun k hk => ?_), hs.2.2⟩)
  injection hk with hk
  rw [← hk]; exact hs.2.2
theorem run_mkS (w : World) : (Instr.makeMap 62 none).run Tryd.prog w = .ok (.map (some w.heap.size)) (w.alloc (.map #[] 0)) := rfl
/-- names that have occurred, as a map has them -/
def seenM (S : List (List UInt8)) : List (List UInt8 × Value) := S.map fun k => (k, .bool true)
theorem seen_look (k : List UInt8) (S : List (List UInt8)) : (k ∈ S ∧ lookL k (seenM S) = some (.bool true)) ∨ (k ∉ S ∧ lookL k (seenM S) = none) := by
  induction S with
  | nil => right; exact ⟨by simp, rfl⟩
  | cons x r ih =>
    unfold seenM at ih ⊢
    rw [List.map_cons, lookL]
    by_cases h : k = x
    · left; exact ⟨by simp [h], by rw [if_pos h]⟩
    · rw [if_neg h]
      rcases ih with ⟨a, b⟩ | ⟨a, b⟩
      · left; exact ⟨by simp [a], b⟩
      · right; exact ⟨by simp [h, a], b⟩
theorem zeroB (w : World) : (zeroValue 4).run Tryd.prog w = .ok (.bool false) w := by kernel_rfl
theorem look_seen {w : World} {b : Nat} {S : List (List UInt8)} (h : SMap w b (seenM S)) (k : List UInt8) : (Instr.lookup 62 (.map (some b)) (.string (B k)) false).run Tryd.prog w = .ok (.bool (decide (k ∈ S))) w := by
  have := (SMap.look (T := 62) (K := 9) (E := 4) Tryd.underlying62 Tryd.underlying9 h k _ (zeroB w)).1
  rw [this]
  rcases seen_look k S with ⟨a, b⟩ | ⟨a, b⟩
  · rw [b]; simp [a]
  · rw [b]; simp [a]

/-- the error of a list of files behind those with the names S -/
def acGo (S : List (List UInt8)) : List (List UInt8 × List UInt8) → Int
  | [] => 0
  | f :: r => if clean f.1 = [] ∨ clean f.1 ≠ f.1 then 6 else if f.1 ∈ S then 7 else acGo (S ++ [f.1]) r
def bigB (fs : List (List UInt8 × List UInt8)) : Bool := fs.any fun f => decide (16777216 < f.2.length)
def acheck (fs : List (List UInt8 × List UInt8)) : Int := if 128 < fs.length then 3 else if bigB fs = true then 3 else acGo [] fs

set_option maxHeartbeats 4000000 in
set_option maxRecDepth 100000 in
theorem acheck_any (A : Option Addr) (n c : Nat) (fs : List (List UInt8 × List UInt8)) (w : World) (hx : Rd w w.heap.size 2 A n (fls fs)) (hn : n ≤ 1000000) (hsz : ∀ f ∈ fs, f.1.length ≤ 1000000) (hG : Glob w) :
    Calls Tryd.prog 18 #[.slice A n c] w fun e w' => e = .returned (.int .i64 (acheck fs)) ∧ Below w.heap.size w w' := by
  have HL := Lib.hid hx.fls_length
  have HS := Lib.hid hsz
  clear hsz
  by_cases h128 : 128 < n
  · have HE : Hid (acheck fs = 3) := by unfold acheck; rw [HL.out, if_pos h128]; rfl
    go_enter Tryd.func18, Tryd.ntmps18
    go_wp2
    go_ret
    exact ⟨ret_int (by rw [HE.out]), Below.refl _ _⟩
  · have HE : Hid (acheck fs = if bigB fs = true then 3 else acGo [] fs) := by unfold acheck; rw [HL.out, if_neg h128]; rfl
    have hmk := run_mkS
    go_enter Tryd.func18, Tryd.ntmps18
    go_wp2
    go_loopw [15] (fun i wr => ∃ k : Nat, k ≤ n ∧ i = .int .i64 k ∧ Below w.heap.size w wr ∧ Hid (bigB fs = bigB (fs.drop k))) (fun i _ => n - (intOf i).toNat)
    case atStart => exact ⟨0, Nat.zero_le _, rfl, Below.refl _ _, rfl⟩
    case round =>
      obtain ⟨k, hk, rfl, hbw, hr⟩ := hrel
      have hbs := hbw.size
      by_cases hlt : k < n
      · obtain ⟨b, o, rfl, hm, h0, h1⟩ := (hx.below hbw).file hlt
        have HD := Lib.hid (fdrop fs k (by rw [HL.out]; exact hlt))
        generalize fs[k]?.getD ([], []) = f at *
        by_cases hf : 16777216 < f.2.length
        · have HB : Hid (bigB fs = true) := by rw [hr.out, HD.out]; simp [bigB, hf, Hid]
          go_wp2
          go_ret
          exact ⟨ret_int (by rw [HE.out, if_pos HB.out]), hbw.alloc hbs _⟩
        · have HB : Hid (bigB fs = bigB (fs.drop (k + 1))) := by rw [hr.out, HD.out]; simp [bigB, hf, Hid]
          go_wp2
          go_roundw
          case rel => exact ⟨k + 1, by omega, by go_num, hbw.alloc hbs _, HB.out⟩
          case measure => simp [intOf]; omega
      · obtain rfl : k = n := by omega
        have HB : Hid (bigB fs = false) := by rw [hr.out, List.drop_of_length_le (by rw [HL.out]; omega)]; rfl
        rename World => wo
        have hb0 : Below w.heap.size w (wo.alloc (.map #[] 0)) := hbw.alloc hbs _
        have hs0 : MapAt w.heap.size w wo.heap.size (seenM []) (wo.alloc (.map #[] 0)) := ⟨SMap.made wo, hb0, hbs⟩
        have HS0 := Lib.hid hs0
        clear hs0 hb0
        generalize hbk : wo.heap.size = bk at *
        go_wp2
        generalize wo.alloc (.map #[] 0) = W at *
        clear hbk hr
        go_loopw [27] (fun i wr => ∃ (j : Nat) (S : List (List UInt8)), j ≤ k ∧ i = .int .i64 j ∧ MapAt w.heap.size w bk (seenM S) wr ∧ Hid (acGo [] fs = acGo S (fs.drop j))) (fun i _ => k - (intOf i).toNat)
        case atStart => exact ⟨0, [], Nat.zero_le _, rfl, HS0.out, rfl⟩
        case round =>
          obtain ⟨j, S, hj, rfl, hms, hr⟩ := hrel
          have hbw := hms.2.1
          have hbs := hbw.size
          by_cases hlt : j < k
          · obtain ⟨b, o, rfl, hm, h0, h1⟩ := (hx.below hbw).file hlt
            have HD := Lib.hid (fdrop fs j (by rw [HL.out]; exact hlt))
            have hfl : (fs[j]?.getD ([], [])).1.length ≤ 1000000 := HS.out _ (fl_mem fs j (by rw [HL.out]; exact hlt))
            generalize fs[j]?.getD ([], []) = f at *
            go_wp2_with fail
            have hG1 : Glob (wr.alloc (.cells #[.string (B f.1), .string (B f.2)] 35)) := hG.below (hbw.alloc hbs _) (Nat.le_refl _)
            with_reducible refine (clean_any (B f.1) _ (by rw [B_size]; exact hfl) hG1).mono ?_
            rintro e w1 ⟨rfl, hb1⟩
            rw [B_data]
            unfold CleanRet
            have hm1 : MapAt w.heap.size w bk (seenM S) w1 := (hms.below (below_alloc _ _) hbs).below hb1 (by simp; omega)
            have q0 : w1.cell? ⟨wr.heap.size, 0, none⟩ = some (.string (B f.1)) := by rw [hb1.cell (p := ⟨wr.heap.size, 0, none⟩) (by simp)]; simp
            clear hb1 h0 h1
            by_cases hc : clean f.1 = [] ∨ clean f.1 ≠ f.1
            · have HX : Hid (acGo [] fs = 6) := by rw [hr.out, HD.out, acGo, if_pos hc]; rfl
              by_cases hc0 : clean f.1 = []
              · rw [hc0]
                have e0 : errK [] = 6 := rfl
                rw [e0]
                clear e0 hc hc0
                go_wp2
                go_ret
                exact ⟨ret_int (by rw [HE.out, HB.out, HX.out]; rfl), hm1.2.1⟩
              · have hc1 : clean f.1 ≠ f.1 := by rcases hc with h | h; exact absurd h hc0; exact h
                have e0 : errK (clean f.1) = 0 := by unfold errK; rw [if_neg hc0]
                have en : (!(clean f.1 == f.1)) = true := by simpa using hc1
                rw [e0]
                clear e0 hc hc0 hc1
                generalize clean f.1 = cf at *
                go_wp2
                go_ret
                exact ⟨ret_int (by rw [HE.out, HB.out, HX.out]; rfl), hm1.2.1⟩
            · have hc0 : ¬ clean f.1 = [] := fun h => hc (.inl h)
              have hc1 : clean f.1 = f.1 := Classical.byContradiction fun h => hc (.inr h)
              have e0 : errK (clean f.1) = 0 := by unfold errK; rw [if_neg hc0]
              have HA : Hid (acGo [] fs = if f.1 ∈ S then 7 else acGo (S ++ [f.1]) (fs.drop (j + 1))) := by rw [hr.out, HD.out, acGo, if_neg hc]; rfl
              rw [e0, hc1]
              have en : (!(f.1 == f.1)) = false := by simp
              have hlk := look_seen hm1.1 f.1
              clear e0 hc hc0 hc1
              by_cases hs : f.1 ∈ S
              · have HX : Hid (acGo [] fs = 7) := by rw [HA.out, if_pos hs]; rfl
                rw [decide_eq_true hs] at hlk
                clear hs
                go_wp2
                go_ret
                exact ⟨ret_int (by rw [HE.out, HB.out, HX.out]; rfl), hm1.2.1⟩
              · have HX : Hid (acGo [] fs = acGo (S ++ [f.1]) (fs.drop (j + 1))) := by rw [HA.out, if_neg hs]; rfl
                rw [decide_eq_false hs] at hlk
                have hno : lookL f.1 (seenM S) = none := by
                  rcases seen_look f.1 S with ⟨a, _⟩ | ⟨_, b⟩
                  · exact absurd a hs
                  · exact b
                have HNO := Lib.hid hno
                clear hs hno
                go_wp2_with (refine wpList_upd rfl 62 9 4 _ _ _ rfl Tryd.underlying62 Tryd.underlying9 w.heap.size w bk (seenM S) hm1 rfl f.1 rfl (.bool true) rfl HNO.out ?_)
                intro w2 hm2
                have hm2 : MapAt w.heap.size w bk (seenM (S ++ [f.1])) w2 := by unfold seenM at hm2 ⊢; rw [List.map_append]; exact hm2
                clear hlk q0 hm1
                go_wp2
                go_roundw
                case rel => exact ⟨j + 1, _, by omega, by go_num, hm2, HX.out⟩
                case measure => simp [intOf]; omega
          · have HX : Hid (acGo [] fs = 0) := by rw [hr.out, List.drop_of_length_le (by rw [HL.out]; omega)]; rfl
            go_wp2
            go_ret
            exact ⟨ret_int (by rw [HE.out, HB.out, HX.out]; rfl), hbw⟩
end Go.Proofs.YtofbcblhpflleaaDoor
