/-
  Layer 48 (graph), the reference: stale (the walk).
-/
import Derived.Test.YtbikldmhfaecpaaGrRb
namespace Go.Proofs.Ytbikldmhfaecpaa
open Go.RowKit
set_option linter.unusedVariables false
set_option linter.unusedSimpArgs false
attribute [local go_sem] B_data B_size

/-- nothing but the blocks X is another one -/
def KO (X : Nat → Prop) (w w' : World) : Prop := (∀ b, b < w.heap.size → ¬ X b → w'.heap[b]? = w.heap[b]?) ∧ w.heap.size ≤ w'.heap.size
theorem KO.of_below {X : Nat → Prop} {w w' : World} (h : Below w.heap.size w w') : KO X w w' := ⟨fun b hb _ => h.block b hb, h.size⟩
theorem KO.trans {X : Nat → Prop} {a b c : World} (h : KO X a b) (k : KO X b c) : KO X a c := ⟨fun i hi hx => (k.1 i (Nat.lt_of_lt_of_le hi h.2) hx).trans (h.1 i hi hx), Nat.le_trans h.2 k.2⟩
theorem KO.put {X : Nat → Prop} {w : World} {g i : Nat} {u : Value} (hg : X g) : KO X w (w.setCell ⟨g, i, none⟩ u) :=
  ⟨fun b hb hx => Below.heap_setCell w ⟨g, i, none⟩ u b (fun e => hx (by rw [e]; exact hg)), by simp [World.setCell]⟩
theorem rd_dn {w : World} {n : Nat} {A : Option Addr} {xs : List Value} (h : Rd w w.heap.size 1 A n xs) (q : Nat) : Rd (w.drewN q) (w.drewN q).heap.size 1 A n xs := h.below (below_dn (Below.refl _ _) q)
def NamesP (names : List Nm) (v : VM) : Prop := ∃ x ∈ names, x ∈ v.nd
theorem take_snoc {α : Type} {l : List α} {k : Nat} {y : α} (hk : k ≤ l.length) : (l ++ [y]).take k = l.take k := List.take_append_of_le_length hk
theorem get_snoc {α : Type} {l : List α} {k : Nat} {x y : α} (h : l[k]? = some x) : (l ++ [y])[k]? = some x := by
  rw [List.getElem?_append_left (List.getElem?_eq_some_iff.1 h).1]; exact h
def LP (f : VM → VM) (L : List VM) (i : Nat) (y : VM) : List VM := (L.take i).map f ++ y :: L.drop (i + 1)
section
variable {f : VM → VM} {L : List VM} {i : Nat} {v y y' : VM}
theorem LP_len (h : i < L.length) : (LP f L i y).length = L.length := by unfold LP; simp; omega
theorem LP_tl (h : i < L.length) : ((L.take i).map f).length = i := by simp; omega
theorem LP_get (h : i < L.length) : (LP f L i y)[i]? = some y := by
  unfold LP
  rw [List.getElem?_append_right (by rw [LP_tl h]; exact Nat.le_refl _), LP_tl h, Nat.sub_self]; rfl
theorem LP_set (h : i < L.length) : (LP f L i y).set i y' = LP f L i y' := by
  unfold LP
  rw [List.set_append_right _ _ (by rw [LP_tl h]; exact Nat.le_refl _), LP_tl h, Nat.sub_self]; rfl
theorem LP_start (h : L[i]? = some v) : (L.take i).map f ++ L.drop i = LP f L i v := by
  obtain ⟨hk, e⟩ := List.getElem?_eq_some_iff.1 h
  unfold LP
  rw [List.drop_eq_getElem_cons hk, e]
theorem LP_end (h : L[i]? = some v) : LP f L i (f v) = (L.take (i + 1)).map f ++ L.drop (i + 1) := by
  unfold LP
  rw [take_one h, List.map_append]; simp
end
theorem mkV_nd (P : VM → Prop) (v : VM) : (mkV P v).nd = v.nd := by unfold mkV; split <;> rfl
theorem mkV_congr {P Q : VM → Prop} {v : VM} (h : P v ↔ Q v) : mkV P v = mkV Q v := by
  unfold mkV
  by_cases hp : P v
  · rw [if_pos hp, if_pos (h.1 hp)]
  · rw [if_neg hp, if_neg (fun hq => hp (h.2 hq))]
theorem mkV_pos {names : List Nm} {z : Nat} {x : Nm} {v : VM} (h : names[z]? = some x) (hx : x ∈ v.nd) : mkV (NamesP (names.take (z + 1))) v = { mkV (NamesP (names.take z)) v with fresh := false } := by
  have h1 : NamesP (names.take (z + 1)) v := ⟨x, by rw [take_one h]; simp, hx⟩
  unfold mkV
  rw [if_pos h1]
  split <;> rfl
theorem mkV_neg {names : List Nm} {z : Nat} {x : Nm} {v : VM} (h : names[z]? = some x) (hx : x ∉ v.nd) : mkV (NamesP (names.take (z + 1))) v = mkV (NamesP (names.take z)) v := by
  refine mkV_congr ⟨fun ⟨a, ha, hv⟩ => ?_, fun ⟨a, ha, hv⟩ => ⟨a, by rw [take_one h]; exact List.mem_append_left _ ha, hv⟩⟩
  rw [take_one h] at ha
  rcases List.mem_append.1 ha with ha | ha
  · exact ⟨a, ha, hv⟩
  · rw [List.mem_singleton] at ha; subst ha; exact absurd hv hx
theorem mkV_nil (v : VM) : mkV (NamesP []) v = v := by
  unfold mkV; rw [if_neg]; rintro ⟨a, ha, _⟩; simp at ha
set_option maxHeartbeats 16000000 in
set_option maxRecDepth 100000 in
theorem rstale_any {rb c N : Nat} {A : Option Addr} {L : List VM} {w0 : World} {X : Nat → Prop} (n : Nm) (w : World) (h : RG rb A c L N w0 w X) (hl : L.length ≤ 100000) (hnd : ∀ v ∈ L, v.nd.length ≤ 10000) :
    Calls Try.prog 30 #[.pointer (some ⟨rb, 0, none⟩), .string (B n)] w fun e w' => e = .returned (.tuple #[]) ∧ RG rb A c (L.map (mkV (StV L n))) N w0 w' X ∧ KO X w w' := by
  obtain ⟨m, hm⟩ : ∃ m, L.length = m := ⟨_, rfl⟩
  have HM := Lib.hid hm
  have H := Lib.hid h
  have HND := Lib.hid hnd
  rw [hm] at hl
  clear hm h hnd
  have hro : (w.alloc (.cells #[.string (B n)] 9)).ownsRow w.heap.size 9 1 (.slice (some ⟨w.heap.size, 0, none⟩) 1 1) 1 (strs [n]) := World.ownsRow_lit w #[.string (B n)] 1 (Nat.le_refl _) (by decide) rfl
  have HRO := Lib.hid hro
  have HB0 := Lib.hid (below_alloc w (.cells #[.string (B n)] 9))
  clear hro
  go_enter Try.func30, Try.ntmps30
  go_wp2
  generalize w.alloc (.cells #[.string (B n)] 9) = w1 at *
  go_loopw [4, 5, 6] (fun v4 v5 _ wr => ∃ (k : Nat) (names : List Nm), v5 = .int .i64 k ∧ k ≤ names.length ∧ Below w.heap.size w wr ∧ wr.ownsRow w.heap.size 9 1 v4 names.length (strs names) ∧ Hid (NI L n names ∧ ClosedTo L names k)) (fun _ i _ _ => m + 1 - (intOf i).toNat)
  case atStart => exact ⟨0, [n], rfl, Nat.zero_le _, HB0.out, HRO.out, Lib.hid ⟨⟨by simp, by simp, fun x hx => .inl (by simpa using hx)⟩, fun x hx => by simp at hx⟩⟩
  case round =>
    obtain ⟨k, names, rfl, hk, hbw, ho, hni⟩ := hrel
    have hlen := hni.out.1.len
    rw [HM.out] at hlen
    obtain ⟨p, hp⟩ : ∃ p, names.length = p := ⟨_, rfl⟩
    obtain ⟨A2, c2, rfl, hc2⟩ := own_form ho
    rw [hp] at hk hlen
    have HP := Lib.hid hp
    have HO := Lib.hid ho
    have HB := Lib.hid hbw
    have HNI := Lib.hid hni.out
    rw [hp] at HO ⊢
    clear hp ho hbw hni hc2
    by_cases hlt : k < p
    · obtain ⟨s, hs⟩ := get_of (l := names) (k := k) (by rw [HP.out]; exact hlt)
      have HS := Lib.hid hs
      clear hs
      go_wp2
      go_loopw [4, 6] (fun v4 v6 wr => ∃ (i : Nat) (ns : List Nm), v6 = .int .i64 i ∧ i ≤ m ∧ k < ns.length ∧ ns.length ≤ m + 1 ∧ Below w.heap.size w wr ∧ wr.ownsRow w.heap.size 9 1 v4 ns.length (strs ns) ∧ Hid (NI L n ns ∧ ClosedTo L ns k ∧ ns[k]? = some s ∧ ∀ v ∈ L.take i, s ∈ v.nd → v.nm ∈ ns)) (fun _ i _ => m - (intOf i).toNat)
      case atStart => exact ⟨0, names, rfl, Nat.zero_le _, by rw [HP.out]; exact hlt, by rw [HP.out]; exact hlen, HB.out, by rw [HP.out]; exact HO.out, Lib.hid ⟨HNI.out.1, HNI.out.2, HS.out, fun v hv => by simp at hv⟩⟩
      case round =>
        obtain ⟨i, ns, rfl, hi, hkn, hnl, hbw, ho, hinv⟩ := hrel
        have hR := H.out.below hbw
        have k0 := hR.h0
        rw [HM.out] at k0
        by_cases hlt2 : i < m
        · obtain ⟨v, hv⟩ := get_of (l := L) (k := i) (by rw [HM.out]; exact hlt2)
          obtain ⟨g, rfl, hg, c0, c1, c2', c3, c4⟩ := hR.at10 hv
          clear c1 c2' c4
          obtain ⟨A3, c3', rfl, hc3⟩ := own_form ho
          obtain ⟨q, hq⟩ : ∃ q, ns.length = q := ⟨_, rfl⟩
          have HQ := Lib.hid hq
          have ho' := ho
          rw [hq] at ho'
          obtain ⟨g2, o2, rfl, hg2, d0⟩ := (Rd.of_own ho').strk hinv.out.2.2.1
          have i1 : (0 : Int) ≤ (i : Int) := by omega
          have i2 : (i : Int) < (m : Int) := by omega
          have i3 : (0 : Int) ≤ (k : Int) := by omega
          have i4 : (k : Int) < (q : Int) := by omega
          have hmem := List.mem_of_getElem? hv
          have hDT := (hR.dt v hmem).1.1
          have hnl2 := HND.out v hmem
          have HC1 := Lib.hid (fun z => needs_any v.nA v.nd.length v.nc v.nd s (wr.drewN z) (rd_dn hDT z) (by omega))
          have HC2 := Lib.hid (fun z => needs_any (some ⟨g2, o2, none⟩) q c3' ns v.nm (wr.drewN z) (rd_dn (Rd.of_own ho') z) (by omega))
          have HINV := Lib.hid hinv.out
          have HBW := Lib.hid hbw
          have HOW := Lib.hid ho
          have HV := Lib.hid hv
          have HMEM := Lib.hid hmem
          rw [hq] at HOW hkn hnl ⊢
          clear hinv hbw ho ho' hv hmem hDT hnl2 hc3 hq hR
          by_cases h1 : s ∈ v.nd
          · have x1 : decide (s ∈ v.nd) = true := decide_eq_true h1
            rw [x1] at HC1
            by_cases h2 : v.nm ∈ ns
            · have x2 : decide (v.nm ∈ ns) = true := decide_eq_true h2
              rw [x2] at HC2
              have HNX : Hid (∀ v' ∈ L.take (i + 1), s ∈ v'.nd → v'.nm ∈ ns) := Lib.hid (all_take (P := fun v' : VM => s ∈ v'.nd → v'.nm ∈ ns) HINV.out.2.2.2 (fun _ => h2) HV.out)
              clear x1 x2 h1 h2
              go_wp2_with fail
              go_quiet (first | (go_at_call 33; with_reducible exact Calls.quiet_of_same (HC1.out _)) | (go_at_call 33; with_reducible exact Calls.quiet_of_same (HC2.out _)))
              go_wp2
              go_roundw
              case rel => exact ⟨i + 1, ns, by go_num, by omega, by rw [HQ.out]; exact hkn, by rw [HQ.out]; exact hnl, below_dn HBW.out _, by rw [HQ.out]; exact own_below HOW.out (below_dn (Below.refl _ _) _), Lib.hid ⟨HINV.out.1, HINV.out.2.1, HINV.out.2.2.1, HNX.out⟩⟩
              case measure => simp [intOf]; omega
            · have x2 : decide (v.nm ∈ ns) = false := decide_eq_false h2
              rw [x2] at HC2
              have HN2 := Lib.hid (HINV.out.1.snoc HMEM.out (List.mem_of_getElem? HINV.out.2.2.1) h1 h2)
              have HCL := Lib.hid (HINV.out.2.1.snoc (by rw [HQ.out]; omega) v.nm)
              have HNX : Hid (∀ v' ∈ L.take (i + 1), s ∈ v'.nd → v'.nm ∈ ns ++ [v.nm]) := Lib.hid (all_take (P := fun v' : VM => s ∈ v'.nd → v'.nm ∈ ns ++ [v.nm]) (fun v' hv' hs' => List.mem_append_left _ (HINV.out.2.2.2 v' hv' hs')) (fun _ => by simp) HV.out)
              have hsz := HBW.out.size
              clear x1 x2 h1 h2
              go_wp2_with fail
              go_quiet (first | (go_at_call 33; with_reducible exact Calls.quiet_of_same (HC1.out _)) | (go_at_call 33; with_reducible exact Calls.quiet_of_same (HC2.out _)))
              go_wp2_with (refine wpList_app rfl (.tmp 52) (.tmp 61) 29 rfl 9 (.string ⟨#[]⟩) 1 16 Try.underlying29 Try.info9 rfl (by omega) _ [.string (B v.nm)] rfl (by simp; rfl) w.heap.size _ _ _ (own_below HOW.out (below_dn (Below.refl _ _) _)) rfl rfl (by omega) (by omega) hsz ?_)
              intro v5 w5 ho5 hg5 hb5
              have e5 : strs ns ++ [.string (B v.nm)] = strs (ns ++ [v.nm]) := by simp [strs]
              have l5 : q + 1 = (ns ++ [v.nm]).length := by rw [List.length_append, HQ.out]; rfl
              have q5 : (ns ++ [v.nm]).length ≤ m + 1 := by have := HN2.out.len; rwa [HM.out] at this
              have q6 : k < (ns ++ [v.nm]).length := by omega
              rw [e5, l5] at ho5
              have HB5 := Lib.hid ((below_dn HBW.out _).trans hb5)
              have HO5 := Lib.hid ho5
              clear ho5 hg5 hb5 e5 l5 HC1 HC2 k0 c0 c3 d0 hsz
              go_wp2
              go_roundw
              case rel => exact ⟨i + 1, ns ++ [v.nm], by go_num, by omega, q6, q5, HB5.out, HO5.out, Lib.hid ⟨HN2.out, HCL.out, get_snoc HINV.out.2.2.1, HNX.out⟩⟩
              case measure => simp [intOf]; omega
          · have x1 : decide (s ∈ v.nd) = false := decide_eq_false h1
            rw [x1] at HC1
            have HNX : Hid (∀ v' ∈ L.take (i + 1), s ∈ v'.nd → v'.nm ∈ ns) := Lib.hid (all_take (P := fun v' : VM => s ∈ v'.nd → v'.nm ∈ ns) HINV.out.2.2.2 (fun h => absurd h h1) HV.out)
            clear x1 h1
            go_wp2_with fail
            go_quiet (first | (go_at_call 33; with_reducible exact Calls.quiet_of_same (HC1.out _)))
            go_wp2
            go_roundw
            case rel => exact ⟨i + 1, ns, by go_num, by omega, by rw [HQ.out]; exact hkn, by rw [HQ.out]; exact hnl, below_dn HBW.out _, by rw [HQ.out]; exact own_below HOW.out (below_dn (Below.refl _ _) _), Lib.hid ⟨HINV.out.1, HINV.out.2.1, HINV.out.2.2.1, HNX.out⟩⟩
            case measure => simp [intOf]; omega
        · obtain rfl : i = m := by omega
          have HINV := Lib.hid hinv.out
          have HCL : Hid (ClosedTo L ns (k + 1)) := Lib.hid (fun x hx v hv hn => by
            have h := HINV.out.2.2.2
            rw [List.take_of_length_le (by rw [HM.out]; exact Nat.le_refl _)] at h
            rw [take_one HINV.out.2.2.1] at hx
            rcases List.mem_append.1 hx with hx | hx
            · exact HINV.out.2.1 x hx v hv hn
            · rw [List.mem_singleton] at hx; subst hx; exact h v hv hn)
          have HB2 := Lib.hid hbw
          have HO2 := Lib.hid ho
          clear hinv hbw ho hR
          go_wp2
          go_roundw
          case rel => exact ⟨k + 1, ns, by go_num, by omega, HB2.out, HO2.out, Lib.hid ⟨HINV.out.1, HCL.out⟩⟩
          case measure => simp [intOf]; omega
    · obtain rfl : k = p := by omega
      have HST := Lib.hid (HNI.out.1.st (by rw [HP.out]; exact HNI.out.2))
      have HR := Lib.hid (H.out.below HB.out)
      have HKO := Lib.hid (KO.of_below (X := X) HB.out)
      have HST2 : Hid (∀ v, mkV (NamesP names) v = mkV (StV L n) v) := Lib.hid (fun v => mkV_congr (HST.out v))
      clear HB HB0 HRO HST HNI
      have HXB := Lib.hid (fun (W : World) (hk : KO X w W) (j : Nat) => hk)
      go_wp2
      go_loopw [7, 8] (fun v7 _ W => ∃ i : Nat, i ≤ m ∧ v7 = .int .i64 i ∧ RG rb A c ((L.take i).map (mkV (NamesP names)) ++ L.drop i) N w0 W X ∧ KO X w W ∧ W.ownsRow w.heap.size 9 1 (.slice A2 k c2) k (strs names)) (fun i _ _ => m - (intOf i).toNat)
      case atStart => exact ⟨0, Nat.zero_le _, rfl, HR.out, HKO.out, HO.out⟩
      case round =>
        obtain ⟨i, hi, rfl, hr, hkk, ho⟩ := hrel
        have k0 := hr.h0
        have hlen : ((L.take i).map (mkV (NamesP names)) ++ L.drop i).length = m := by
          have := HM.out
          simp; omega
        rw [hlen] at k0
        by_cases hlt2 : i < m
        · obtain ⟨v, hv⟩ := get_of (l := L) (k := i) (by rw [HM.out]; exact hlt2)
          have hil : i < L.length := by rw [HM.out]; exact hlt2
          have HV := Lib.hid hv
          have HIL := Lib.hid hil
          rw [LP_start hv] at hr
          have HR1 := Lib.hid hr
          have HK1 := Lib.hid hkk
          have HO1 := Lib.hid ho
          clear hr hkk ho hv hil hlen
          go_wp2
          rename World => w2
          go_loopw [8] (fun v8 W => ∃ z : Nat, z ≤ k ∧ v8 = .int .i64 z ∧ RG rb A c (LP (mkV (NamesP names)) L i (mkV (NamesP (names.take z)) v)) N w0 W X ∧ KO X w W ∧ W.ownsRow w.heap.size 9 1 (.slice A2 k c2) k (strs names)) (fun z _ => k - (intOf z).toNat)
          case atStart => exact ⟨0, Nat.zero_le _, rfl, by rw [List.take_zero, mkV_nil]; exact HR1.out, HK1.out, HO1.out⟩
          case round =>
            obtain ⟨z, hz, rfl, hr, hkk, ho⟩ := hrel
            by_cases hlt3 : z < k
            · obtain ⟨x, hx⟩ := get_of (l := names) (k := z) (by rw [HP.out]; exact hlt3)
              obtain ⟨g2, o2, rfl, hg2, d0⟩ := (Rd.of_own ho).strk hx
              have k0 := hr.h0
              rw [LP_len HIL.out, HM.out] at k0
              obtain ⟨y, hy⟩ : ∃ y, mkV (NamesP (names.take z)) v = y := ⟨_, rfl⟩
              have hyn : y.nd = v.nd := by rw [← hy]; exact mkV_nd _ _
              rw [hy] at hr
              obtain ⟨g, rfl, hg, c0, c1, c2', c3, c4, c5, c6, c7, c8, c9⟩ := hr.at10 (LP_get HIL.out)
              clear c0 c1 c2' c4 c5 c6 c7 c8
              have hDT := (hr.dt y (List.mem_of_getElem? (LP_get HIL.out))).1
              have hIN := (hr.dt y (List.mem_of_getElem? (LP_get HIL.out))).2
              have hnl := HND.out v (List.mem_of_getElem? HV.out)
              rw [← hyn] at hnl
              have HC1 := Lib.hid (fun q => needs_any y.nA y.nd.length y.nc y.nd x (wr.drewN q) (rd_dn hDT.1 q) (by omega))
              have i1 : (0 : Int) ≤ (i : Int) := by omega
              have i2 : (i : Int) < (m : Int) := by omega
              have i3 : (0 : Int) ≤ (z : Int) := by omega
              have i4 : (z : Int) < (k : Int) := by omega
              have HG := Lib.hid hg
              have hfz := hr.free (i * 10 + 9)
              have hge := (hr.rx g rfl)
              have hgw := hge.1
              have HRB := Lib.hid hr
              have HKB := Lib.hid hkk
              have HOB := Lib.hid ho
              have HY := Lib.hid hy
              have HDI := Lib.hid (And.intro hDT hIN)
              have HXX := Lib.hid hx
              have HGE := Lib.hid hgw
              clear hr hkk ho hDT hIN hy hx hg hge hgw hnl
              by_cases h1 : x ∈ y.nd
              · have x1 : decide (x ∈ y.nd) = true := decide_eq_true h1
                rw [x1] at HC1
                have HEQ : Hid (mkV (NamesP (names.take (z + 1))) v = { y with fresh := false }) := Lib.hid (by rw [mkV_pos HXX.out (hyn ▸ h1), HY.out])
                clear x1 h1 hyn
                go_wp2_with fail
                go_quiet (first | (go_at_call 33; with_reducible exact Calls.quiet_of_same (HC1.out _)))
                go_wp2
                have HR2 := Lib.hid (((HRB.out.below (below_dn (Below.refl _ _) nq)).put (LP_get HIL.out) (j := 9) (v' := { y with fresh := false }) (u := .bool false) (by decide) rfl ⟨HDI.out.1.keep (fun b _ _ _ => rfl) (Nat.le_refl _), HDI.out.2.keep (fun b _ _ _ => rfl) (Nat.le_refl _)⟩))
                have HK2 := Lib.hid ((HKB.out.trans (KO.of_below (below_dn (Below.refl _ _) nq))).trans (KO.put (i := i * 10 + 9) (u := .bool false) HGE.out))
                have HO2 := Lib.hid (ownsRow_setCell_other (own_below HOB.out (below_dn (Below.refl _ _) nq)) (a := ⟨g, i * 10 + 9, none⟩) (fun e => by have h1 := (HOB.out.lt g e).1; have h2 := (H.out.xs g HGE.out).2; omega) (.bool false))
                rw [LP_set HIL.out] at HR2
                go_roundw
                case rel => exact ⟨z + 1, by omega, by go_num, by rw [HEQ.out]; exact HR2.out, HK2.out, HO2.out⟩
                case measure => simp [intOf]; omega
              · have x1 : decide (x ∈ y.nd) = false := decide_eq_false h1
                rw [x1] at HC1
                have HEQ : Hid (mkV (NamesP (names.take (z + 1))) v = y) := Lib.hid (by rw [mkV_neg HXX.out (hyn ▸ h1), HY.out])
                clear x1 h1 hyn
                go_wp2_with fail
                go_quiet (first | (go_at_call 33; with_reducible exact Calls.quiet_of_same (HC1.out _)))
                go_wp2
                go_roundw
                case rel => exact ⟨z + 1, by omega, by go_num, by rw [HEQ.out]; exact HRB.out.below (below_dn (Below.refl _ _) _), HKB.out.trans (KO.of_below (below_dn (Below.refl _ _) _)), own_below HOB.out (below_dn (Below.refl _ _) _)⟩
                case measure => simp [intOf]; omega
            · obtain rfl : z = k := by omega
              rw [List.take_of_length_le (by rw [HP.out]; exact Nat.le_refl _), LP_end HV.out] at hr
              have HR2 := Lib.hid hr
              have HK2 := Lib.hid hkk
              have HO2 := Lib.hid ho
              clear hr hkk ho
              go_wp2
              go_roundw
              case rel => exact ⟨i + 1, by omega, by go_num, HR2.out, HK2.out, HO2.out⟩
              case measure => simp [intOf]; omega
        · obtain rfl : i = m := by omega
          have hr2 : RG rb A c (L.map (mkV (StV L n))) N w0 wr X := by
            rw [List.take_of_length_le (by rw [HM.out]; exact Nat.le_refl _), List.drop_eq_nil_of_le (by rw [HM.out]; exact Nat.le_refl _), List.append_nil, show mkV (NamesP names) = mkV (StV L n) from funext HST2.out] at hr
            exact hr
          have HR2 := Lib.hid hr2
          have HK2 := Lib.hid hkk
          clear hr hkk ho hr2 hlen
          go_wp2
          go_end0
          exact ⟨rfl, HR2.out, HK2.out⟩
end Go.Proofs.Ytbikldmhfaecpaa
