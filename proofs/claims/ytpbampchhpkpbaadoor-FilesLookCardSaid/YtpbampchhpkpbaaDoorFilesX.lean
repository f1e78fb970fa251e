/-
  Layer 16 (files): the page's examples.
-/
import Derived.Test.YtpbampchhpkpbaaDoorFilesW
import Derived.Test.YtpbampchhpkpbaaDoorFilesG
import Derived.Test.YtpbampchhpkpbaaDoorFilesF
namespace Go.Proofs.YtpbampchhpkpbaaDoor
set_option linter.unusedSimpArgs false
open Go.RowKit
set_option linter.unusedVariables false

theorem clean_at (s t : ByteArray) (l r : List UInt8) (k : Int) (hs : s = B l) (ht : B r = t) (hl : l.length ≤ 1000000) (h : clean l = r) (hk : errK r = k) (w : World) (hG : Glob w) :
    Calls Tryd.prog 11 #[.string s] w fun e w' => e = .returned (.tuple #[.string t, .int .i64 k]) ∧ Below w.heap.size w w' := by
  subst hs
  have := clean_any (B l) w (by rw [B_size]; exact hl) hG
  unfold CleanRet at this
  rw [B_data, h, hk, ht] at this
  exact this
theorem fjoin_at (s s' t : ByteArray) (l l' r : List UInt8) (k : Int) (hs : s = B l) (hs' : s' = B l') (ht : B r = t) (hl : l.length ≤ 900000) (hl' : l'.length ≤ 900000) (h : joinF l l' = r) (hk : errK r = k) (w : World) (hG : Glob w) :
    Calls Tryd.prog 13 #[.string s, .string s'] w fun e w' => e = .returned (.tuple #[.string t, .int .i64 k]) ∧ Below w.heap.size w w' := by
  subst hs hs'
  have := fjoin_any (B l) (B l') w (by rw [B_size]; omega) (by rw [B_size]; omega) hG
  unfold PairRet at this
  rw [B_data, B_data, h, hk, ht] at this
  exact this
theorem relative_at (s s' t : ByteArray) (l l' r : List UInt8) (hs : s = B l) (hs' : s' = B l') (ht : B r = t) (hl : l.length ≤ 900000) (hl' : l'.length ≤ 900000) (h0 : clean l ≠ []) (h1 : clean l' ≠ []) (h : relL (clean l) (clean l') = r) (w : World) (hG : Glob w) :
    Calls Tryd.prog 15 #[.string s, .string s'] w fun e w' => e = .returned (.tuple #[.string t, .int .i64 0]) ∧ Below w.heap.size w w' := by
  subst hs hs'
  have := relative_any (B l) (B l') w (by rw [B_size]; omega) (by rw [B_size]; omega) hG
  rw [B_data, B_data, relRet_yes h0 h1, h, ht] at this
  exact this
theorem fsplit_at (s a b c : ByteArray) (l la lb lc : List UInt8) (hs : s = B l) (ha : B la = a) (hb : B lb = b) (hc : B lc = c) (hl : l.length ≤ 900000) (h1 : dirL l = la) (h2 : baseE (behind 47 l) = lb) (h3 : extE (behind 47 l) = lc) (w : World) :
    Calls Tryd.prog 17 #[.string s] w fun e w' => e = .returned (.tuple #[.string a, .string b, .string c]) ∧ Below w.heap.size w w' := by
  subst hs
  have := fsplit_any (B l) w (by rw [B_size]; omega)
  unfold SplitRet at this
  rw [B_data, h1, h2, h3, ha, hb, hc] at this
  exact this

def exL : List (List UInt8 × List UInt8) := [([97], []), ([99], [])]
def exM : List (List UInt8 × List UInt8) := [([97], []), ([98], [120]), ([99], [])]
def exN : List (List UInt8 × List UInt8) := [([98], []), ([97], [])]
theorem rd_new (w : World) (fs : List (List UInt8 × List UInt8)) (cs : Array Value) (n : Nat) (hc : cs = (fls fs).toArray) (hn : fs.length = n) :
    Rd (w.alloc (.cells cs 36)) (w.alloc (.cells cs 36)).heap.size 2 (some ⟨w.heap.size, 0, none⟩) n (fls fs) := by
  subst hc
  exact rd_of_row (m := 0) (heap_alloc_new w _) (by rw [List.take_of_length_le (by rw [fls_len, hn]; omega)]) hn

theorem ex_same : (exL == exL) = true := by decide +kernel
theorem ex_set : setL exL ([98], [120]) = exM := by decide +kernel
theorem ex_drop : dropL exM [98] = exL := by decide +kernel
theorem ex_get : GetRet exM [98] = .returned (.tuple #[.string ⟨#[120]⟩, .bool true]) := by
  have h : findL [98] exM 0 = 1 := by decide +kernel
  have h2 : ((exM[1]?).getD ([], [])).2 = [120] := by decide +kernel
  unfold GetRet
  rw [h, if_neg (by decide), show ((1 : Int).toNat) = 1 from rfl, h2]
  rfl
theorem ex_check : checkL exM = 0 := by decide +kernel
theorem ex_check2 : checkL exN = 5 := by decide +kernel

set_option maxHeartbeats 8000000 in
set_option maxRecDepth 100000 in
theorem awake_any (w : World) (hG : Glob w) :
    Calls Tryd.prog 10 #[] w fun e w' => e = .returned (.bool true) ∧ Below w.heap.size w w' := by
  go_enter Tryd.func10, Tryd.ntmps10
  go_wp2_with fail
  refine (clean_at _ ⟨#[97, 47, 99, 46, 109, 100]⟩ [47, 97, 47, 46, 47, 98, 47, 47, 46, 46, 47, 99, 46, 109, 100] [97, 47, 99, 46, 109, 100] 0 rfl rfl (by decide) (by decide +kernel) rfl w hG).mono ?_
  rintro e w1 ⟨rfl, hb1⟩
  have hG1 := hG.below hb1 (Nat.le_refl _)
  go_wp2_with fail
  refine (clean_at _ ⟨#[]⟩ [46, 46] [] 6 rfl rfl (by decide) (by decide +kernel) rfl w1 hG1).mono ?_
  rintro e w2 ⟨rfl, hb2'⟩
  have hb2 := hb1.trans (hb2'.mono hb1.size)
  have hG2 := hG.below hb2 (Nat.le_refl _)
  go_wp2_with fail
  refine (fjoin_at _ _ ⟨#[99, 46, 109, 100]⟩ [97, 47, 98, 46, 109, 100] [46, 46, 47, 99, 46, 109, 100] [99, 46, 109, 100] 0 rfl rfl rfl (by decide) (by decide) (by decide +kernel) rfl w2 hG2).mono ?_
  rintro e w3 ⟨rfl, hb3'⟩
  have hb3 := hb2.trans (hb3'.mono hb2.size)
  have hG3 := hG.below hb3 (Nat.le_refl _)
  go_wp2_with fail
  refine (fjoin_at _ _ ⟨#[100, 46, 109, 100]⟩ [97, 47, 98, 46, 109, 100] [47, 100, 46, 109, 100] [100, 46, 109, 100] 0 rfl rfl rfl (by decide) (by decide) (by decide +kernel) rfl w3 hG3).mono ?_
  rintro e w4 ⟨rfl, hb4'⟩
  have hb4 := hb3.trans (hb4'.mono hb3.size)
  have hG4 := hG.below hb4 (Nat.le_refl _)
  go_wp2_with fail
  refine (relative_at _ _ ⟨#[46, 46, 47, 99, 47, 121, 46, 109, 100]⟩ [97, 47, 98, 47, 120, 46, 109, 100] [97, 47, 99, 47, 121, 46, 109, 100] [46, 46, 47, 99, 47, 121, 46, 109, 100] rfl rfl rfl (by decide) (by decide) (by decide +kernel) (by decide +kernel) (by decide +kernel) w4 hG4).mono ?_
  rintro e w5 ⟨rfl, hb5'⟩
  have hb5 := hb4.trans (hb5'.mono hb4.size)
  have hG5 := hG.below hb5 (Nat.le_refl _)
  go_wp2_with fail
  refine (fsplit_at _ ⟨#[97]⟩ ⟨#[98, 46, 116, 97, 114]⟩ ⟨#[46, 103, 122]⟩ [97, 47, 98, 46, 116, 97, 114, 46, 103, 122] [97] [98, 46, 116, 97, 114] [46, 103, 122] rfl rfl rfl rfl (by decide) (by decide +kernel) (by decide +kernel) (by decide +kernel) w5).mono ?_
  rintro e w6 ⟨rfl, hb6'⟩
  have hb6 := hb5.trans (hb6'.mono hb5.size)
  have hG6 := hG.below hb6 (Nat.le_refl _)
  clear hb1 hb2 hb3 hb4 hb5 hb2' hb3' hb4' hb5' hb6' hG1 hG2 hG3 hG4 hG5
  have hl := rd_new w6 exL #[.string ⟨#[97]⟩, .string ⟨#[]⟩, .string ⟨#[99]⟩, .string ⟨#[]⟩] 2 rfl rfl
  have hb7 : Below w.heap.size w (w6.alloc (.cells #[.string ⟨#[97]⟩, .string ⟨#[]⟩, .string ⟨#[99]⟩, .string ⟨#[]⟩] 36)) := hb6.alloc hb6.size _
  go_wp2_with fail
  obtain ⟨w7, hw7⟩ : ∃ w7, w7 = (w6.alloc (.cells #[.string ⟨#[97]⟩, .string ⟨#[]⟩, .string ⟨#[99]⟩, .string ⟨#[]⟩] 36)) := ⟨_, rfl⟩
  rw [← hw7] at hl hb7
  rw [← hw7]
  clear hw7
  have hG7 := hG.below hb7 (Nat.le_refl _)
  refine (set_any _ 2 2 exL ([98], [120]) w7 hl (by decide) (Nat.le_refl _)).mono ?_
  rintro e w8 ⟨v, rfl, ho, hb8'⟩
  rw [ex_set] at ho
  have hb8 := hb7.trans (hb8'.mono hb7.size)
  have hG8 := hG.below hb8 (Nat.le_refl _)
  have hl8 := (hl.below hb8').more hb8'.size
  obtain ⟨A, c, rfl, hc⟩ := own_form ho
  have hr := Rd.of_own ho
  clear hl ho
  simp only [show exM.length = 3 from rfl] at hr hc ⊢
  go_wp2_with fail
  have H := get_any A 3 c exM ⟨#[98]⟩ w8 hr (by decide)
  rw [show (⟨#[98]⟩ : ByteArray).toList = [98] from B_data [98], ex_get] at H
  refine H.mono ?_
  rintro e w9 ⟨rfl, hb9'⟩
  have hb9 := hb8.trans (hb9'.mono hb8.size)
  have hG9 := hG.below hb9 (Nat.le_refl _)
  have hl9 := (hl8.below hb9').more hb9'.size
  have hr9 := (hr.below hb9').more hb9'.size
  clear hr hl8 H
  go_wp2_with fail
  have H := check_any A 3 c exM w9 hr9 (by decide) (by decide +kernel) hG9
  rw [ex_check] at H
  refine H.mono ?_
  rintro e wa ⟨rfl, hba'⟩
  have hba := hb9.trans (hba'.mono hb9.size)
  have hla := (hl9.below hba').more hba'.size
  have hra := (hr9.below hba').more hba'.size
  clear hr9 hl9 H
  have hx := rd_new wa exN #[.string ⟨#[98]⟩, .string ⟨#[]⟩, .string ⟨#[97]⟩, .string ⟨#[]⟩] 2 rfl rfl
  have hbb : Below w.heap.size w (wa.alloc (.cells #[.string ⟨#[98]⟩, .string ⟨#[]⟩, .string ⟨#[97]⟩, .string ⟨#[]⟩] 36)) := hba.alloc hba.size _
  have hbb' : Below wa.heap.size wa (wa.alloc (.cells #[.string ⟨#[98]⟩, .string ⟨#[]⟩, .string ⟨#[97]⟩, .string ⟨#[]⟩] 36)) := (Below.refl _ _).alloc (Nat.le_refl _) _
  have hlb := (hla.below hbb').more hbb'.size
  have hrb := (hra.below hbb').more hbb'.size
  clear hla hra
  go_wp2_with fail
  obtain ⟨wb, hwb⟩ : ∃ wb, wb = (wa.alloc (.cells #[.string ⟨#[98]⟩, .string ⟨#[]⟩, .string ⟨#[97]⟩, .string ⟨#[]⟩] 36)) := ⟨_, rfl⟩
  rw [← hwb] at hx hbb hlb hrb
  rw [← hwb]
  clear hwb hbb'
  have hGb := hG.below hbb (Nat.le_refl _)
  have H := check_any _ 2 2 exN wb hx (by decide) (by decide +kernel) hGb
  rw [ex_check2] at H
  refine H.mono ?_
  rintro e wc ⟨rfl, hbc'⟩
  have hbc := hbb.trans (hbc'.mono hbb.size)
  have hlc := (hlb.below hbc').more hbc'.size
  have hrc := (hrb.below hbc').more hbc'.size
  clear hx hlb hrb H hba' hba
  go_wp2_with fail
  have H := drop_any A 3 c exM ⟨#[98]⟩ wc hrc (by decide) hc
  rw [show (⟨#[98]⟩ : ByteArray).toList = [98] from B_data [98], ex_drop] at H
  refine H.mono ?_
  rintro e wd ⟨v, rfl, hv, hbd'⟩
  have hbd := hbc.trans (hbd'.mono hbc.size)
  have hld := (hlc.below hbd').more hbd'.size
  clear hlc hrc H
  obtain ⟨A', n', c', rfl, hc', hv⟩ := hv
  obtain rfl : 2 = n' := hv.fls_length
  go_wp2_with fail
  have H := same_any A' _ 2 2 c' 2 exL exL wd _ hv hld (by decide) (by decide)
  rw [ex_same] at H
  refine H.mono ?_
  rintro e we ⟨rfl, q, rfl⟩
  go_wp2
  go_ret
  exact ⟨rfl, below_drewN hbd q⟩

end Go.Proofs.YtpbampchhpkpbaaDoor
