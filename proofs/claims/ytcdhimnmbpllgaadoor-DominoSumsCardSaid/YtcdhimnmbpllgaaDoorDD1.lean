/-
  The walk of drawn, with each closure that it is called with (printed by gen_drawn.py).
-/
import Derived.Test.YtcdhimnmbpllgaaDoorDShelf
import Derived.Test.YtcdhimnmbpllgaaDoorDC1
namespace Go.Proofs.YtcdhimnmbpllgaaDoor
open Go.RowKit
set_option linter.unusedVariables false
set_option linter.unusedSimpArgs false
set_option maxHeartbeats 2000000
set_option maxRecDepth 100000

theorem Has.keepB {w w' : World} {M : MS} {B : Nat} (h : Has w M) (hs : w.heap.size ≤ B) (hb : Below B w w') : Has w' M := fun i => by
  obtain ⟨h1, h2, h3⟩ := h i
  refine ⟨h1, fun hi => Nat.lt_of_lt_of_le (h2 hi) hb.size, fun o ho => ?_⟩
  have h4 := h3 o ho
  have hi : i < w.heap.size := (Array.getElem?_eq_some_iff.1 h4).1
  rw [hb.block i (by omega), h4]
def StrR (s : ByteArray) (cs : List Value) (m : MS) : Prop := cs = [.string s] ∧ m = 0
theorem StrR.one : ∀ a cs m, StrR a cs m → ∀ u ∈ cs, u.oneCell' = true := fun a cs m h u hu => by
  rw [h.1] at hu
  rw [List.mem_singleton.1 hu]; rfl
theorem StrR.len : ∀ a cs m, StrR a cs m → cs.length = 1 := fun a cs m h => by rw [h.1]; rfl
theorem row22 : RowTy Tryd.prog 22 9 (.string ⟨#[]⟩) 1 16 := ⟨Tryd.underlying22, by kernel_rfl, rfl⟩
/-- A row that is drawn. -/
def drRow (f : Nat → Nat → Bool) (y k : Nat) : List UInt8 := (List.range k).map fun x => if f x y then 35 else 46
def drStr (f : Nat → Nat → Bool) (n y : Nat) : ByteArray := ⟨(drRow f y n).toArray⟩
def drawnK (f : Nat → Nat → Bool) (n k : Nat) : List ByteArray := (List.range k).map (drStr f n)
def drawnL (p : List ByteArray) (f : Nat → Nat → Bool) : List ByteArray := drawnK f (wd p) p.length
theorem drRow_succ (f : Nat → Nat → Bool) (y k : Nat) : drRow f y (k + 1) = drRow f y k ++ [if f k y then 35 else 46] := by unfold drRow; rw [List.range_succ, List.map_append]; rfl
theorem drRow_len (f : Nat → Nat → Bool) (y k : Nat) : (drRow f y k).length = k := by unfold drRow; simp
theorem drawnK_succ (f : Nat → Nat → Bool) (n k : Nat) : drawnK f n (k + 1) = drawnK f n k ++ [drStr f n k] := by unfold drawnK; rw [List.range_succ, List.map_append]; rfl
theorem drawnK_len (f : Nat → Nat → Bool) (n k : Nat) : (drawnK f n k).length = k := by unfold drawnK; simp
theorem drawn_69 {F : MS} {p : List ByteArray} {A : Option Addr} {c : Nat} {w : World} {c1 c2 : Value} (hp : RegOk p) (f : Nat → Nat → Bool) (hcl : ∀ W, Has W (MS.all w) → ∀ x y : Nat, x < wd p → y < p.length → Calls Tryd.prog 69 #[.agg #[.int .i64 (x : Int), .int .i64 (y : Int)], c1, c2] W fun e w' => e = .returned (.bool (f x y)) ∧ Kp W w') :
    Calls Tryd.prog 65 #[rgV p A c, .func (.func 69) #[] #[c1, c2]] w fun e w' => ∃ v m, e = .returned v ∧ SlR 9 1 StrR (drawnL p f) v m ∧ (∀ M, Has w M → Has w' (m + M)) ∧ Ext w w' := by
  have HA := hid ((Has.all w).alloc (.cells #[.int .i64 (wd p), .int .i64 p.length, .slice A p.length c] 51))
  have HE := hid (Ext.alloc w (.cells #[.int .i64 (wd p), .int .i64 p.length, .slice A p.length c] 51))
  show Calls Tryd.prog 65 #[.agg #[.int .i64 (wd p), .int .i64 p.length, .slice A p.length c], .func (.func 69) #[] #[c1, c2]] w _
  have hw8 := hp.w8
  have hh8 := hp.h8
  obtain ⟨WN, hWN⟩ : ∃ WN, WN = wd p := ⟨_, rfl⟩
  obtain ⟨HN, hHN⟩ : ∃ HN, HN = p.length := ⟨_, rfl⟩
  have Hend := hid (show drawnK f WN HN = drawnL p f by rw [hWN, hHN]; rfl)
  have Hcl := hid hcl
  rw [← hHN] at HA HE Hcl ⊢
  rw [← hWN] at HA HE Hcl ⊢
  have hWI : (WN : Int) ≤ 8 := by omega
  have hHI : (HN : Int) ≤ 8 := by omega
  have hW8 : WN ≤ 8 := by omega
  have hH8 : HN ≤ 8 := by omega
  have HB := hid (show Has (w.alloc (.cells #[.int .i64 WN, .int .i64 HN, .slice A HN c] 51)) (0 + (blk w.heap.size #[.int .i64 WN, .int .i64 HN, .slice A HN c] 51 + MS.all w)) by rw [MS.zero_add]; exact HA.out)
  clear hp hw8 hh8 hWN hHN hcl
  go_enter Tryd.func65, Tryd.ntmps65
  have f0 := HB.out.right.at_ (i := 1) rfl
  go_wp2
  clear f0
  go_loopw [5, 11] (fun v5 v11 wr => ∃ (y : Nat) (m : MS), y ≤ HN ∧ v11 = .int .i64 y ∧ SlR 9 1 StrR (drawnK f WN y) v5 m ∧ Has wr (m + (blk w.heap.size #[.int .i64 WN, .int .i64 HN, .slice A HN c] 51 + MS.all w)) ∧ Ext w wr) (fun _ v _ => HN - (intOf v).toNat)
  case atStart => exact ⟨0, 0, Nat.zero_le _, rfl, ⟨[], 0, 0, Sl.nil 9 1, RowsR.nil, (MS.zero_add _).symm⟩, HB.out, HE.out⟩
  case round =>
    obtain ⟨y, m, hy, rfl, hs, hW, hE⟩ := hrel
    obtain ⟨A5, c5, rfl, _⟩ := SlR.form hs
    rw [drawnK_len] at hs ⊢
    have HS := hid hs
    have HW := hid hW
    have HE' := hid hE
    clear hs hW hE
    by_cases hlt : y < HN
    · have hltI : (y : Int) < HN := by omega
      have Hlt := hid hlt
      have HI0 := hid (isb_new wr)
      have HB0 := hid (below_alloc wr (.cells #[.pointer none, .slice none 0 0] 124))
      have HW0 := hid (HW.out.keepB (Nat.le_refl _) HB0.out)
      have f0 := HW0.out.right.at_ (i := 0) rfl
      clear hlt hy
      go_wp2
      clear f0
      obtain ⟨b8, hb8⟩ : ∃ b8, b8 = wr.heap.size := ⟨_, rfl⟩
      rw [← hb8] at HI0 HB0 ⊢
      have Hb8 := hid hb8
      clear hb8
      have HKB := hid (show ∀ W, Below b8 wr W → Has W (m + (blk w.heap.size #[.int .i64 WN, .int .i64 HN, .slice A HN c] 51 + MS.all w)) from fun W hb => HW.out.keepB (by rw [Hb8.out]; exact Nat.le_refl _) hb)
      go_loopw [16] (fun v wq => ∃ x : Nat, x ≤ WN ∧ v = .int .i64 x ∧ Lib.IsBuilder 124 5 b8 b8 (Lib.byteCells (drRow f y x)) wq ∧ Below b8 wr wq) (fun v _ => WN - (intOf v).toNat)
      case atStart => exact ⟨0, Nat.zero_le _, rfl, HI0.out, HB0.out⟩
      case round =>
        rename_i wo _ _
        obtain ⟨x, hx, rfl, hI, hB⟩ := hrel
        have HI := hid hI
        have HBl := hid hB
        have HWq := hid (HKB.out wr hB)
        have Hsz := hid (show b8 ≤ wr.heap.size by rw [Hb8.out]; exact hB.size)
        clear hI hB HI0 HB0
        by_cases hlx : x < WN
        · have hlxI : (x : Int) < WN := by omega
          have Hlx := hid hlx
          have hcl := hid (Hcl.out wr HWq.out.right.right x y hlx Hlt.out)
          have Hlen := hid (show (Lib.byteCells (drRow f y x)).length + 1 ≤ 140737488355328 by simp [Lib.byteCells, drRow_len]; omega)
          clear hlx hx
          cases hfx : f x y with
          | true =>
            rw [hfx] at hcl
            have Hfx := hid hfx
            clear hfx
            go_wp2_with (first
              | (go_at_call 69; refine hcl.out.mono ?_; rintro e6 w6 ⟨rfl, k6⟩; have K6 := hid k6; clear k6)
              | (go_at_call 94; refine (writeByte_any b8 b8 _ 35 _ (isb_kp K6.out HI.out) Hlen.out (Nat.le_trans Hsz.out K6.out.2.size)).mono ?_; rintro e8 w8 ⟨rfl, hb8, hbl8⟩; have HI8 := hid hb8; have HB8 := hid ((HBl.out.trans (K6.out.below b8 Hsz.out)).trans hbl8); clear hb8 hbl8))
            go_roundw
            case rel => exact ⟨x + 1, Hlx.out, by go_num, .inr (by have := HI8.out; rw [drRow_succ, Hfx.out]; simpa [Lib.byteCells] using this), HB8.out⟩
            case measure => have := Hlx.out; simp [intOf]; omega
          | false =>
            rw [hfx] at hcl
            have Hfx := hid hfx
            clear hfx
            go_wp2_with (first
              | (go_at_call 69; refine hcl.out.mono ?_; rintro e6 w6 ⟨rfl, k6⟩; have K6 := hid k6; clear k6)
              | (go_at_call 94; refine (writeByte_any b8 b8 _ 46 _ (isb_kp K6.out HI.out) Hlen.out (Nat.le_trans Hsz.out K6.out.2.size)).mono ?_; rintro e8 w8 ⟨rfl, hb8, hbl8⟩; have HI8 := hid hb8; have HB8 := hid ((HBl.out.trans (K6.out.below b8 Hsz.out)).trans hbl8); clear hb8 hbl8))
            go_roundw
            case rel => exact ⟨x + 1, Hlx.out, by go_num, .inr (by have := HI8.out; rw [drRow_succ, Hfx.out]; simpa [Lib.byteCells] using this), HB8.out⟩
            case measure => have := Hlx.out; simp [intOf]; omega
        · have hxe : x = WN := by omega
          subst hxe
          clear hlx hx
          have Hstr := hid (builderString_any b8 b8 (drRow f y x) wr HI.out Hsz.out)
          have Hstr2 := hid (show Calls Tryd.prog 95 #[.pointer (some ⟨b8, 0, none⟩)] wr fun e w' => e = .returned (.string (drStr f x y)) ∧ Below b8 wr w' from Hstr.out)
          have Hl2 := hid (drawnK_succ f x y)
          have hy8 : y ≤ 8 := by have := Hlt.out; omega
          go_wp2_with (first
            | (go_at_call 95; refine Hstr2.out.mono ?_; rintro e8 w8 ⟨rfl, hbl8⟩; have HB8 := hid (HBl.out.trans hbl8); have HW8 := hid (HKB.out _ HB8.out); clear hbl8)
            | (at_builtin; refine wpList_push rfl (.tmp 27) (.tmp 29) row22 rfl (.slice A5 y c5) rfl _ rfl rfl StrR StrR.one StrR.len (drawnK f x y) (drStr f x y) m 0 _ HS.out ⟨rfl, rfl⟩ (HW8.out.eq (by rw [MS.zero_add])) y (drawnK_len _ _ _) (by omega) (by omega) ?_; intro A9 c9 w9 m9 j4 j5 j6; have J4 := hid j4; have J5 := hid j5; have J6 := hid ((HE'.out.trans (Below.ext HB8.out)).trans j6); clear j4 j5 j6))
          go_roundw
          case rel => exact ⟨y + 1, m9, Hlt.out, by go_num, by rw [Hl2.out]; exact J4.out, J5.out, J6.out⟩
          case measure => have := Hlt.out; simp [intOf]; omega
    · have hye : y = HN := by omega
      subst hye
      clear hlt hy
      go_wp2
      go_ret
      exact ⟨_, m, rfl, by rw [← Hend.out]; exact HS.out, fun M hM => (Has.with_all hM (HW.out.eq (by ac_rfl) : Has wr (m + blk w.heap.size #[.int .i64 WN, .int .i64 y, .slice A y c] 51 + MS.all w)) |> fun h => (h.eq (by ac_rfl) : Has wr (m + M + blk w.heap.size #[.int .i64 WN, .int .i64 y, .slice A y c] 51)).left), HE'.out⟩
theorem drawn_70 {F : MS} {p : List ByteArray} {A : Option Addr} {c : Nat} {w : World} {c1 c2 c3 : Value} (hp : RegOk p) (f : Nat → Nat → Bool) (hcl : ∀ W, Has W (MS.all w) → ∀ x y : Nat, x < wd p → y < p.length → Calls Tryd.prog 70 #[.agg #[.int .i64 (x : Int), .int .i64 (y : Int)], c1, c2, c3] W fun e w' => e = .returned (.bool (f x y)) ∧ Kp W w') :
    Calls Tryd.prog 65 #[rgV p A c, .func (.func 70) #[] #[c1, c2, c3]] w fun e w' => ∃ v m, e = .returned v ∧ SlR 9 1 StrR (drawnL p f) v m ∧ (∀ M, Has w M → Has w' (m + M)) ∧ Ext w w' := by
  have HA := hid ((Has.all w).alloc (.cells #[.int .i64 (wd p), .int .i64 p.length, .slice A p.length c] 51))
  have HE := hid (Ext.alloc w (.cells #[.int .i64 (wd p), .int .i64 p.length, .slice A p.length c] 51))
  show Calls Tryd.prog 65 #[.agg #[.int .i64 (wd p), .int .i64 p.length, .slice A p.length c], .func (.func 70) #[] #[c1, c2, c3]] w _
  have hw8 := hp.w8
  have hh8 := hp.h8
  obtain ⟨WN, hWN⟩ : ∃ WN, WN = wd p := ⟨_, rfl⟩
  obtain ⟨HN, hHN⟩ : ∃ HN, HN = p.length := ⟨_, rfl⟩
  have Hend := hid (show drawnK f WN HN = drawnL p f by rw [hWN, hHN]; rfl)
  have Hcl := hid hcl
  rw [← hHN] at HA HE Hcl ⊢
  rw [← hWN] at HA HE Hcl ⊢
  have hWI : (WN : Int) ≤ 8 := by omega
  have hHI : (HN : Int) ≤ 8 := by omega
  have hW8 : WN ≤ 8 := by omega
  have hH8 : HN ≤ 8 := by omega
  have HB := hid (show Has (w.alloc (.cells #[.int .i64 WN, .int .i64 HN, .slice A HN c] 51)) (0 + (blk w.heap.size #[.int .i64 WN, .int .i64 HN, .slice A HN c] 51 + MS.all w)) by rw [MS.zero_add]; exact HA.out)
  clear hp hw8 hh8 hWN hHN hcl
  go_enter Tryd.func65, Tryd.ntmps65
  have f0 := HB.out.right.at_ (i := 1) rfl
  go_wp2
  clear f0
  go_loopw [5, 11] (fun v5 v11 wr => ∃ (y : Nat) (m : MS), y ≤ HN ∧ v11 = .int .i64 y ∧ SlR 9 1 StrR (drawnK f WN y) v5 m ∧ Has wr (m + (blk w.heap.size #[.int .i64 WN, .int .i64 HN, .slice A HN c] 51 + MS.all w)) ∧ Ext w wr) (fun _ v _ => HN - (intOf v).toNat)
  case atStart => exact ⟨0, 0, Nat.zero_le _, rfl, ⟨[], 0, 0, Sl.nil 9 1, RowsR.nil, (MS.zero_add _).symm⟩, HB.out, HE.out⟩
  case round =>
    obtain ⟨y, m, hy, rfl, hs, hW, hE⟩ := hrel
    obtain ⟨A5, c5, rfl, _⟩ := SlR.form hs
    rw [drawnK_len] at hs ⊢
    have HS := hid hs
    have HW := hid hW
    have HE' := hid hE
    clear hs hW hE
    by_cases hlt : y < HN
    · have hltI : (y : Int) < HN := by omega
      have Hlt := hid hlt
      have HI0 := hid (isb_new wr)
      have HB0 := hid (below_alloc wr (.cells #[.pointer none, .slice none 0 0] 124))
      have HW0 := hid (HW.out.keepB (Nat.le_refl _) HB0.out)
      have f0 := HW0.out.right.at_ (i := 0) rfl
      clear hlt hy
      go_wp2
      clear f0
      obtain ⟨b8, hb8⟩ : ∃ b8, b8 = wr.heap.size := ⟨_, rfl⟩
      rw [← hb8] at HI0 HB0 ⊢
      have Hb8 := hid hb8
      clear hb8
      have HKB := hid (show ∀ W, Below b8 wr W → Has W (m + (blk w.heap.size #[.int .i64 WN, .int .i64 HN, .slice A HN c] 51 + MS.all w)) from fun W hb => HW.out.keepB (by rw [Hb8.out]; exact Nat.le_refl _) hb)
      go_loopw [16] (fun v wq => ∃ x : Nat, x ≤ WN ∧ v = .int .i64 x ∧ Lib.IsBuilder 124 5 b8 b8 (Lib.byteCells (drRow f y x)) wq ∧ Below b8 wr wq) (fun v _ => WN - (intOf v).toNat)
      case atStart => exact ⟨0, Nat.zero_le _, rfl, HI0.out, HB0.out⟩
      case round =>
        rename_i wo _ _
        obtain ⟨x, hx, rfl, hI, hB⟩ := hrel
        have HI := hid hI
        have HBl := hid hB
        have HWq := hid (HKB.out wr hB)
        have Hsz := hid (show b8 ≤ wr.heap.size by rw [Hb8.out]; exact hB.size)
        clear hI hB HI0 HB0
        by_cases hlx : x < WN
        · have hlxI : (x : Int) < WN := by omega
          have Hlx := hid hlx
          have hcl := hid (Hcl.out wr HWq.out.right.right x y hlx Hlt.out)
          have Hlen := hid (show (Lib.byteCells (drRow f y x)).length + 1 ≤ 140737488355328 by simp [Lib.byteCells, drRow_len]; omega)
          clear hlx hx
          cases hfx : f x y with
          | true =>
            rw [hfx] at hcl
            have Hfx := hid hfx
            clear hfx
            go_wp2_with (first
              | (go_at_call 70; refine hcl.out.mono ?_; rintro e6 w6 ⟨rfl, k6⟩; have K6 := hid k6; clear k6)
              | (go_at_call 94; refine (writeByte_any b8 b8 _ 35 _ (isb_kp K6.out HI.out) Hlen.out (Nat.le_trans Hsz.out K6.out.2.size)).mono ?_; rintro e8 w8 ⟨rfl, hb8, hbl8⟩; have HI8 := hid hb8; have HB8 := hid ((HBl.out.trans (K6.out.below b8 Hsz.out)).trans hbl8); clear hb8 hbl8))
            go_roundw
            case rel => exact ⟨x + 1, Hlx.out, by go_num, .inr (by have := HI8.out; rw [drRow_succ, Hfx.out]; simpa [Lib.byteCells] using this), HB8.out⟩
            case measure => have := Hlx.out; simp [intOf]; omega
          | false =>
            rw [hfx] at hcl
            have Hfx := hid hfx
            clear hfx
            go_wp2_with (first
              | (go_at_call 70; refine hcl.out.mono ?_; rintro e6 w6 ⟨rfl, k6⟩; have K6 := hid k6; clear k6)
              | (go_at_call 94; refine (writeByte_any b8 b8 _ 46 _ (isb_kp K6.out HI.out) Hlen.out (Nat.le_trans Hsz.out K6.out.2.size)).mono ?_; rintro e8 w8 ⟨rfl, hb8, hbl8⟩; have HI8 := hid hb8; have HB8 := hid ((HBl.out.trans (K6.out.below b8 Hsz.out)).trans hbl8); clear hb8 hbl8))
            go_roundw
            case rel => exact ⟨x + 1, Hlx.out, by go_num, .inr (by have := HI8.out; rw [drRow_succ, Hfx.out]; simpa [Lib.byteCells] using this), HB8.out⟩
            case measure => have := Hlx.out; simp [intOf]; omega
        · have hxe : x = WN := by omega
          subst hxe
          clear hlx hx
          have Hstr := hid (builderString_any b8 b8 (drRow f y x) wr HI.out Hsz.out)
          have Hstr2 := hid (show Calls Tryd.prog 95 #[.pointer (some ⟨b8, 0, none⟩)] wr fun e w' => e = .returned (.string (drStr f x y)) ∧ Below b8 wr w' from Hstr.out)
          have Hl2 := hid (drawnK_succ f x y)
          have hy8 : y ≤ 8 := by have := Hlt.out; omega
          go_wp2_with (first
            | (go_at_call 95; refine Hstr2.out.mono ?_; rintro e8 w8 ⟨rfl, hbl8⟩; have HB8 := hid (HBl.out.trans hbl8); have HW8 := hid (HKB.out _ HB8.out); clear hbl8)
            | (at_builtin; refine wpList_push rfl (.tmp 27) (.tmp 29) row22 rfl (.slice A5 y c5) rfl _ rfl rfl StrR StrR.one StrR.len (drawnK f x y) (drStr f x y) m 0 _ HS.out ⟨rfl, rfl⟩ (HW8.out.eq (by rw [MS.zero_add])) y (drawnK_len _ _ _) (by omega) (by omega) ?_; intro A9 c9 w9 m9 j4 j5 j6; have J4 := hid j4; have J5 := hid j5; have J6 := hid ((HE'.out.trans (Below.ext HB8.out)).trans j6); clear j4 j5 j6))
          go_roundw
          case rel => exact ⟨y + 1, m9, Hlt.out, by go_num, by rw [Hl2.out]; exact J4.out, J5.out, J6.out⟩
          case measure => have := Hlt.out; simp [intOf]; omega
    · have hye : y = HN := by omega
      subst hye
      clear hlt hy
      go_wp2
      go_ret
      exact ⟨_, m, rfl, by rw [← Hend.out]; exact HS.out, fun M hM => (Has.with_all hM (HW.out.eq (by ac_rfl) : Has wr (m + blk w.heap.size #[.int .i64 WN, .int .i64 y, .slice A y c] 51 + MS.all w)) |> fun h => (h.eq (by ac_rfl) : Has wr (m + M + blk w.heap.size #[.int .i64 WN, .int .i64 y, .slice A y c] 51)).left), HE'.out⟩
end Go.Proofs.YtcdhimnmbpllgaaDoor
