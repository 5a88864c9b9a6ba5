/-
  Rows of bytes, built and turned into strings; regions turned and mirrored, plain. Plain: perfect matchings of a list of things, counted: the number does not hang on the order, is a product over what is apart, and stands for the tilings of a grid. Plain: the number of tilings of a region turned or mirrored, of its parts, and of what the dominoes at its first cell leave.
-/
import Derived.Test.YtcdhimnmbpllgaaDoorDD3
import Derived.Lib.SlBytesRow
import Derived.Laws.Append
import Derived.Test.YtcdhimnmbpllgaaDoorTPlain2
import Derived.Test.YtcdhimnmbpllgaaDoorPReach
import Derived.Test.YtcdhimnmbpllgaaDoorDPt
namespace Go.Proofs.YtcdhimnmbpllgaaDoor
open Go.RowKit
set_option linter.unusedVariables false
set_option linter.unusedSimpArgs false
set_option maxHeartbeats 2000000
set_option maxRecDepth 100000

/-- Bytes owned. -/
def ByR : UInt8 → List Value → MS → Prop := fun b cs ms => cs = [.int .u8 (b.toNat : Int)] ∧ ms = 0
theorem ByR.one : ∀ a cs m, ByR a cs m → ∀ u ∈ cs, u.oneCell' = true := fun a cs m h u hu => by
  rw [h.1] at hu; simp at hu; rw [hu]; rfl
theorem ByR.len : ∀ a cs m, ByR a cs m → cs.length = 1 := fun a cs m h => by rw [h.1]; rfl
def RT.by8 : RT UInt8 := ⟨1, fun _ b cs => cs = [.int .u8 (b.toNat : Int)], fun _ _ _ h => by rw [h]; rfl, fun _ _ _ _ h => h⟩
theorem row101 : RowTy Tryd.prog 101 5 (.int .u8 0) 1 1 := ⟨Tryd.underlying101, by kernel_rfl, rfl⟩
theorem size5 : (Tryd.prog.info? 5).map (·.size) = some 1 := by kernel_rfl
/-- The bytes of a slice, as a string. -/
theorem conv_by {F : MS} {l : List UInt8} {A : Option Addr} {n c : Nat} {w : World} (h : RdS F RT.by8 l (.slice A n c)) (hn : n = l.length) (h1 : 1 ≤ n) (hH : Has w F) :
    (convert 101 9 (.slice A n c)).run Tryd.prog w = .ok (.string ⟨l.toArray⟩) w := by
  subst hn
  obtain ⟨x, hx⟩ : ∃ x, l[0]? = some x := ⟨_, List.getElem?_eq_getElem (by omega)⟩
  obtain ⟨b, o, cs, hA, hcs, hc⟩ := h.get hx (show 0 < RT.by8.sz by decide)
  subst hA
  have hsz : (⟨l.toArray⟩ : ByteArray).size = l.length := by simp [ByteArray.size]
  have := Go.Lib.run_convert_whole (P := Tryd.prog) w 101 5 9 Tryd.underlying101 Tryd.underlying5 Tryd.underlying9 b o ⟨l.toArray⟩ (fun i hi => by
    have hi' : i < l.length := by rw [← hsz]; exact hi
    obtain ⟨b2, o2, cs2, hA2, hcs2, hc2⟩ := h.get (List.getElem?_eq_getElem hi') (show 0 < RT.by8.sz by decide)
    injection hA2 with hA2
    injection hA2 with hb ho _
    subst hb; subst ho
    obtain rfl : cs2 = [.int .u8 (l[i].toNat : Int)] := hcs2
    have h3 := (hc2 0 _ rfl).c0 hH
    have h4 : o + i * RT.by8.sz + 0 = o + i := by show o + i * 1 + 0 = o + i; omega
    rw [h4] at h3
    rw [h3]
    congr 3) c
  rw [hsz] at this
  exact this
/-- A row of a block that holds a region's row. -/
def RowB (cur : Array Value) (n : Nat) (f : Nat → Bool) : Prop := ∀ j, j < n → cur[j]? = some (.int .u8 (if f j then 35 else 46))
theorem RowB.set {cur : Array Value} {n i : Nat} {f : Nat → Bool} (h : RowB cur n f) (hi : i < n) : RowB (cur.setIfInBounds i (.int .u8 46)) n (fun j => f j && !decide (j = i)) := fun j hj => by
  by_cases e : j = i
  · subst e
    have hin := (Array.getElem?_eq_some_iff.1 (h j hj)).1
    rw [Array.getElem?_setIfInBounds_self_of_lt hin]
    simp
  · rw [Array.getElem?_setIfInBounds_ne (Ne.symm e), h j hj]
    simp [e]
theorem RowB.size {cur : Array Value} {n : Nat} {f : Nat → Bool} (h : RowB cur n f) : n ≤ cur.size := by
  rcases Nat.eq_zero_or_pos n with e | e
  · omega
  · have := (Array.getElem?_eq_some_iff.1 (h (n - 1) (by omega))).1
    omega
theorem conv_row {cur : Array Value} {n c b : Nat} {f : Nat → Nat → Bool} {y : Nat} {w : World} {F : MS} (h : RowB cur n (fun j => f j y)) (h1 : 1 ≤ n) (hH : Has w (blk b cur 5 + F)) :
    (convert 101 9 (.slice (some ⟨b, 0, none⟩) n c)).run Tryd.prog w = .ok (.string (drStr f n y)) w := by
  have hsz := drStr_size f n y
  have := Go.Lib.run_convert_whole (P := Tryd.prog) w 101 5 9 Tryd.underlying101 Tryd.underlying5 Tryd.underlying9 b 0 (drStr f n y) (fun i hi => by
    have hi' : i < n := by rw [← hsz]; exact hi
    rw [Nat.zero_add, hH.cell i, h i hi']
    have e : (drStr f n y)[i] = (if f i y then 35 else 46 : UInt8) := by
      show (drRow f y n).toArray[i]'_ = _
      simp [drRow]
    rw [e]
    split <;> rfl) c
  rw [hsz] at this
  exact this
theorem byte_at {p : List ByteArray} (hp : RegOk p) (hab : ∀ s ∈ p, abB s = true) {x y : Nat} {s : ByteArray} (hx : x < wd p) (hs : p[y]? = some s) : bt s x = if hsR p x y then 35 else 46 := by
  have hm := List.mem_of_getElem? hs
  have hy := (List.getElem?_eq_some_iff.1 hs).1
  have hz := hp.rows s hm
  have h1 : hsR p x y = (bt s x == 35) := by
    unfold hsR hsI
    have e1 : p.getD y empty = s := by rw [List.getD_eq_getElem?_getD, hs]; rfl
    simp only [Int.toNat_natCast]
    rw [e1, decide_eq_true (Int.natCast_nonneg x), decide_eq_true (Int.natCast_nonneg y), decide_eq_true (Int.ofNat_lt.2 hx), decide_eq_true (Int.ofNat_lt.2 hy)]
    rfl
  have h2 : bt s x = 35 ∨ bt s x = 46 := by
    have := hab s hm
    unfold abB at this
    have hx' : x < s.data.size := by have : s.size = s.data.size := rfl; omega
    have h3 := List.all_eq_true.1 this (s.data[x]) (by simp)
    unfold bt
    rw [Array.getD_eq_getD_getElem?, Array.getElem?_eq_getElem hx']
    unfold ab at h3
    rcases of_decide_eq_true h3 with h4 | h4
    · simp [h4]
    · simp [h4]
  rw [h1]
  rcases h2 with h2 | h2 <;> rw [h2] <;> rfl
theorem drRow_eq {p : List ByteArray} (hp : RegOk p) (hab : ∀ s ∈ p, abB s = true) {y : Nat} {s : ByteArray} (hs : p[y]? = some s) : s.data.map (fun b : UInt8 => Value.int .u8 (b.toNat : Int)) = (((List.range (wd p)).map fun x => Value.int .u8 (if hsR p x y then 35 else 46)).toArray) := by
  have hz : s.data.size = wd p := hp.rows s (List.mem_of_getElem? hs)
  apply Array.ext
  · simp [hz]
  · intro i h1 h2
    have hi : i < wd p := by simpa [hz] using h1
    have := byte_at hp hab hi hs
    have hi' : i < s.data.size := by omega
    unfold bt at this
    rw [Array.getD_eq_getD_getElem?, Array.getElem?_eq_getElem hi'] at this
    simp only [Option.getD_some] at this
    simp only [Array.getElem_map, List.getElem_toArray, List.getElem_map, List.getElem_range]
    rw [this]
/-- A region turned, mirrored. -/
def turnL (p : List ByteArray) : List ByteArray := drawnK (fun x y => hsR p y (p.length - 1 - x)) p.length (wd p)
def mirL (p : List ByteArray) : List ByteArray := drawnK (fun x y => hsR p (wd p - 1 - x) y) (wd p) p.length
section
variable {f : Nat → Nat → Bool} {n k : Nat}
theorem drawnK_get {y : Nat} (h : y < k) : (drawnK f n k)[y]? = some (drStr f n y) := by
  unfold drawnK
  rw [List.getElem?_map, List.getElem?_range h]; rfl
theorem drawnK_wd (hk : 1 ≤ k) : wd (drawnK f n k) = n := by
  unfold wd
  rw [List.getD_eq_getElem?_getD, drawnK_get hk]
  exact drStr_size f n 0
theorem drawnK_reg (hn : 1 ≤ n ∧ n ≤ 8) (hk : 1 ≤ k ∧ k ≤ 8) : isReg (drawnK f n k) = true := by
  unfold isReg
  rw [drawnK_wd hk.1, drawnK_len, decide_eq_true ⟨hk.1, hk.2, hn.1, hn.2⟩, Bool.true_and, Bool.not_eq_true']
  rw [List.any_eq_false]
  intro s hs
  unfold drawnK at hs
  obtain ⟨y, hy, rfl⟩ := List.mem_map.1 hs
  unfold badRow
  rw [drStr_size]
  have : abB (drStr f n y) = true := by
    unfold abB
    rw [List.all_eq_true]
    intro b hb
    have hb : b ∈ drRow f y n := by simpa [drStr] using hb
    unfold drRow at hb
    obtain ⟨x, hx, rfl⟩ := List.mem_map.1 hb
    split <;> rfl
  rw [this]
  simp
theorem drawnK_ok (hn : 1 ≤ n ∧ n ≤ 8) (hk : 1 ≤ k ∧ k ≤ 8) : RegOk (drawnK f n k) := (isReg.ok (drawnK_reg hn hk)).1
theorem hsR_drawnK (hk : 1 ≤ k) (x y : Nat) : hsR (drawnK f n k) x y = (decide (x < n) && (decide (y < k) && f x y)) := by
  unfold hsR hsI
  rw [drawnK_wd hk, drawnK_len]
  simp only [Int.toNat_natCast]
  rw [decide_eq_true (Int.natCast_nonneg x), decide_eq_true (Int.natCast_nonneg y), Bool.true_and, Bool.true_and]
  by_cases hx : x < n
  · by_cases hy : y < k
    · rw [decide_eq_true (Int.ofNat_lt.2 hx), decide_eq_true (Int.ofNat_lt.2 hy), decide_eq_true hx, decide_eq_true hy]
      simp only [Bool.true_and]
      have e1 : (drawnK f n k).getD y empty = drStr f n y := by rw [List.getD_eq_getElem?_getD, drawnK_get hy]; rfl
      rw [e1]
      have e2 : bt (drStr f n y) x = if f x y then 35 else 46 := by
        unfold bt drStr
        rw [Array.getD_eq_getD_getElem?]
        simp only [List.getElem?_toArray]
        unfold drRow
        rw [List.getElem?_map, List.getElem?_range hx]
        simp only [Option.map_some, Option.getD_some]
        split <;> rfl
      rw [e2]
      cases f x y <;> rfl
    · rw [decide_eq_false hy, decide_eq_false (fun h => hy (Int.ofNat_lt.1 h))]
      simp
  · rw [decide_eq_false hx, decide_eq_false (fun h => hx (Int.ofNat_lt.1 h))]
    simp
end
end Go.Proofs.YtcdhimnmbpllgaaDoor

namespace Go.Proofs.YtcdhimnmbpllgaaDoor
set_option linter.unusedVariables false
set_option linter.unusedSimpArgs false
set_option maxHeartbeats 1000000

def sumL {α : Type} : List α → (α → Nat) → Nat
  | [], _ => 0
  | a :: l, g => g a + sumL l g
section
variable {α : Type}
theorem sumL_congr : ∀ {l : List α} {g h : α → Nat}, (∀ a ∈ l, g a = h a) → sumL l g = sumL l h
  | [], _, _, _ => rfl
  | a :: l, g, h, hh => by
    show g a + sumL l g = h a + sumL l h
    rw [hh a (by simp), sumL_congr fun b hb => hh b (by simp [hb])]
theorem sumL_add : ∀ (l : List α) (g h : α → Nat), sumL l (fun a => g a + h a) = sumL l g + sumL l h
  | [], _, _ => rfl
  | a :: l, g, h => by
    show g a + h a + sumL l (fun a => g a + h a) = (g a + sumL l g) + (h a + sumL l h)
    rw [sumL_add l g h]; omega
theorem sumL_zero : ∀ {l : List α} {g : α → Nat}, (∀ a ∈ l, g a = 0) → sumL l g = 0
  | [], _, _ => rfl
  | a :: l, g, h => by
    show g a + sumL l g = 0
    rw [h a (by simp), sumL_zero fun b hb => h b (by simp [hb])]
theorem sumL_app : ∀ (l l' : List α) (g : α → Nat), sumL (l ++ l') g = sumL l g + sumL l' g
  | [], l', g => by rw [List.nil_append]; exact (Nat.zero_add _).symm
  | a :: l, l', g => by
    show g a + sumL (l ++ l') g = (g a + sumL l g) + sumL l' g
    rw [sumL_app l l' g]; omega
theorem sumL_mul : ∀ (l : List α) (g : α → Nat) (c : Nat), sumL l (fun a => g a * c) = sumL l g * c
  | [], _, _ => (Nat.zero_mul _).symm
  | a :: l, g, c => by
    show g a * c + sumL l (fun a => g a * c) = (g a + sumL l g) * c
    rw [sumL_mul l g c, Nat.add_mul]
theorem sumL_map {β : Type} (φ : α → β) : ∀ (l : List α) (g : β → Nat), sumL (l.map φ) g = sumL l fun a => g (φ a)
  | [], _ => rfl
  | a :: l, g => by
    show g (φ a) + sumL (l.map φ) g = _
    rw [sumL_map φ l g]; rfl
variable [DecidableEq α]
theorem sumL_out : ∀ {l : List α} {a : α} (g : α → Nat), a ∈ l → sumL l g = g a + sumL (l.erase a) g
  | x :: l, a, g, h => by
    by_cases e : x = a
    · subst e; simp [sumL]
    · rw [List.erase_cons_tail (by simpa using e)]
      show g x + sumL l g = g a + (g x + sumL (l.erase a) g)
      rw [sumL_out g ((List.mem_cons.1 h).resolve_left (Ne.symm e))]; omega
theorem sumL_mem : ∀ {l l' : List α} (g : α → Nat), l.Nodup → l'.Nodup → (∀ x, x ∈ l ↔ x ∈ l') → sumL l g = sumL l' g
  | [], l', g, _, _, h => by
    cases l' with
    | nil => rfl
    | cons a t => exact absurd ((h a).2 (by simp)) (by simp)
  | a :: l, l', g, hn, hn', h => by
    rw [sumL_out g ((h a).1 (by simp))]
    show g a + sumL l g = _
    rw [sumL_mem (l := l) (l' := l'.erase a) g (List.nodup_cons.1 hn).2 (hn'.erase a) fun x => ?_]
    rw [hn'.mem_erase_iff, ← h x, List.mem_cons]
    have := (List.nodup_cons.1 hn).1
    constructor
    · intro hx; exact ⟨fun e => this (e ▸ hx), .inr hx⟩
    · rintro ⟨h1, h2 | h2⟩
      · exact absurd h2 h1
      · exact h2
def dblL (u : List α) (F : α → α → Nat) : Nat := sumL u fun b => sumL (u.erase b) fun d => F b d
theorem dblL_cons {x : α} {v : List α} (hn : (x :: v).Nodup) (F : α → α → Nat) : dblL (x :: v) F = (sumL v fun d => F x d) + (sumL v fun b => F b x) + dblL v F := by
  have hx := (List.nodup_cons.1 hn).1
  unfold dblL
  show (sumL ((x :: v).erase x) fun d => F x d) + (sumL v fun b => sumL ((x :: v).erase b) fun d => F b d) = _
  have h2 : (sumL v fun b => sumL ((x :: v).erase b) fun d => F b d) = sumL v fun b => F b x + sumL (v.erase b) fun d => F b d := sumL_congr fun b hb => by
    rw [List.erase_cons_tail (by simpa using fun e : x = b => hx (e ▸ hb))]; rfl
  rw [List.erase_cons_head, h2, sumL_add]; omega
theorem dblL_swap : ∀ {u : List α}, u.Nodup → ∀ F : α → α → Nat, dblL u F = dblL u fun b d => F d b
  | [], _, _ => rfl
  | x :: v, hn, F => by
    rw [dblL_cons hn, dblL_cons hn, dblL_swap (List.nodup_cons.1 hn).2 F]; omega
/-- Perfect matchings, counted. -/
def pmF (adj : α → α → Bool) : Nat → List α → Nat
  | 0, _ => 1
  | _ + 1, [] => 1
  | n + 1, a :: t => sumL t fun b => if adj a b then pmF adj n (t.erase b) else 0
def pm (adj : α → α → Bool) (l : List α) : Nat := pmF adj l.length l
variable {adj : α → α → Bool}
theorem pmF_eq : ∀ (n m : Nat) (l : List α), l.length ≤ n → l.length ≤ m → pmF adj n l = pmF adj m l
  | 0, 0, _, _, _ => rfl
  | 0, m + 1, [], _, _ => rfl
  | n + 1, 0, [], _, _ => rfl
  | n + 1, m + 1, [], _, _ => rfl
  | 0, _ + 1, a :: t, h, _ => by simp at h
  | _ + 1, 0, a :: t, _, h => by simp at h
  | n + 1, m + 1, a :: t, h, h' => by
    unfold pmF
    refine sumL_congr fun b hb => ?_
    have h1 := List.length_erase_of_mem hb
    simp only [List.length_cons] at h h'
    rw [pmF_eq n m (t.erase b) (by omega) (by omega)]
theorem pm_nil : pm adj ([] : List α) = 1 := rfl
theorem pm_cons (a : α) (t : List α) : pm adj (a :: t) = sumL t fun b => if adj a b then pm adj (t.erase b) else 0 := by
  unfold pm
  show pmF adj (t.length + 1) (a :: t) = _
  conv => lhs; unfold pmF
  refine sumL_congr fun b hb => ?_
  have h1 := List.length_erase_of_mem hb
  rw [pmF_eq t.length _ (t.erase b) (by omega) (Nat.le_refl _)]
theorem pm_two (a c : α) (u : List α) (hn : (a :: c :: u).Nodup) : pm adj (a :: c :: u) = (if adj a c then pm adj u else 0) + dblL u fun b d => if adj a b && adj c d then pm adj ((u.erase b).erase d) else 0 := by
  have hc := (List.nodup_cons.1 (List.nodup_cons.1 hn).2).1
  rw [pm_cons]
  show (if adj a c then pm adj ((c :: u).erase c) else 0) + (sumL u fun b => if adj a b then pm adj ((c :: u).erase b) else 0) = _
  rw [List.erase_cons_head]
  congr 1
  unfold dblL
  refine sumL_congr fun b hb => ?_
  rw [List.erase_cons_tail (by simpa using fun e : c = b => hc (e ▸ hb)), pm_cons]
  cases h : adj a b with
  | false => simp [h, sumL_zero]
  | true => simp [h]
theorem pm_swap (hs : ∀ a b, adj a b = adj b a) {a c : α} {u : List α} (hn : (a :: c :: u).Nodup) : pm adj (a :: c :: u) = pm adj (c :: a :: u) := by
  have hn' : (c :: a :: u).Nodup := by
    simp only [List.nodup_cons, List.mem_cons, not_or] at hn ⊢
    exact ⟨⟨Ne.symm hn.1.1, hn.2.1⟩, hn.1.2, hn.2.2⟩
  rw [pm_two a c u hn, pm_two c a u hn', hs a c]
  congr 1
  rw [dblL_swap (List.nodup_cons.1 (List.nodup_cons.1 hn).2).2]
  unfold dblL
  refine sumL_congr fun b hb => sumL_congr fun d hd => ?_
  show (if (adj a d && adj c b) = true then pm adj ((u.erase d).erase b) else 0) = if (adj c b && adj a d) = true then pm adj ((u.erase b).erase d) else 0
  rw [Bool.and_comm, List.erase_comm]
/-- The number does not hang on the order. -/
theorem pm_mem (hs : ∀ a b, adj a b = adj b a) : ∀ (n : Nat) (l l' : List α), l.length = n → l.Nodup → l'.Nodup → (∀ x, x ∈ l ↔ x ∈ l') → pm adj l = pm adj l' := by
  intro n
  induction n using Nat.strongRecOn with
  | _ n ih =>
    intro l l' hl hn hn' h
    have tail : ∀ (a : α) (t t' : List α), t.length < n → (a :: t).Nodup → t'.Nodup → (∀ x, x ∈ t ↔ x ∈ t') → pm adj (a :: t) = pm adj (a :: t') := fun a t t' htl hnt hnt' ht => by
      have hn1 := (List.nodup_cons.1 hnt).2
      rw [pm_cons, pm_cons, sumL_mem _ hn1 hnt' ht]
      refine sumL_congr fun b hb => ?_
      have hb' := (ht b).2 hb
      have h1 := List.length_erase_of_mem hb'
      rw [ih (t.erase b).length (by have := List.length_pos_of_mem hb'; omega) (t.erase b) (t'.erase b) rfl (hn1.erase b) (hnt'.erase b) fun x => by rw [hn1.mem_erase_iff, hnt'.mem_erase_iff, ht x]]
    cases l with
    | nil =>
      cases l' with
      | nil => rfl
      | cons a t => exact absurd ((h a).2 (by simp)) (by simp)
    | cons a t =>
      simp only [List.length_cons] at hl
      have ha := (h a).1 (by simp)
      have hat := (List.nodup_cons.1 hn).1
      have hnt := (List.nodup_cons.1 hn).2
      have key : ∀ x, x ∈ t ↔ x ∈ l'.erase a := fun x => by
        rw [hn'.mem_erase_iff, ← h x, List.mem_cons]
        exact ⟨fun hx => ⟨fun e => hat (e ▸ hx), .inr hx⟩, fun hx => hx.2.resolve_left hx.1⟩
      rw [tail a t (l'.erase a) (by omega) hn (hn'.erase a) key]
      cases l' with
      | nil => simp at ha
      | cons c s =>
        by_cases e : c = a
        · subst e; rw [List.erase_cons_head]
        · have has : a ∈ s := (List.mem_cons.1 ha).resolve_left (Ne.symm e)
          have hcs := (List.nodup_cons.1 hn').1
          have hns := (List.nodup_cons.1 hn').2
          have hlen : (c :: s).length = n := by
            have h1 := sub_len hn (fun x hx => (h x).1 hx)
            have h2 := sub_len hn' (fun x hx => (h x).2 hx)
            simp only [List.length_cons] at h1 h2 ⊢
            omega
          simp only [List.length_cons] at hlen
          rw [List.erase_cons_tail (by simpa using e)]
          have hnd : (a :: c :: s.erase a).Nodup := by
            simp only [List.nodup_cons, List.mem_cons, not_or]
            exact ⟨⟨Ne.symm e, fun hx => (hns.mem_erase_iff.1 hx).1 rfl⟩, fun hx => hcs (List.mem_of_mem_erase hx), hns.erase a⟩
          rw [pm_swap hs hnd]
          refine (tail c s (a :: s.erase a) (by omega) hn' ?_ fun x => ?_).symm
          · exact List.nodup_cons.2 ⟨fun hx => (hns.mem_erase_iff.1 hx).1 rfl, hns.erase a⟩
          · rw [List.mem_cons, hns.mem_erase_iff]
            constructor
            · intro hx
              by_cases e2 : x = a
              · exact .inl e2
              · exact .inr ⟨e2, hx⟩
            · rintro (rfl | hx)
              · exact has
              · exact hx.2
theorem pm_same (hs : ∀ a b, adj a b = adj b a) {l l' : List α} (hn : l.Nodup) (hn' : l'.Nodup) (h : ∀ x, x ∈ l ↔ x ∈ l') : pm adj l = pm adj l' := pm_mem hs l.length l l' rfl hn hn' h
/-- What is apart. -/
theorem pm_app : ∀ (n : Nat) (l l' : List α), l.length = n → (∀ a ∈ l, ∀ b ∈ l', adj a b = false) → (l ++ l').Nodup → pm adj (l ++ l') = pm adj l * pm adj l' := by
  intro n
  induction n using Nat.strongRecOn with
  | _ n ih =>
    intro l l' hl ha hn
    cases l with
    | nil => rw [List.nil_append, pm_nil, Nat.one_mul]
    | cons a t =>
      simp only [List.length_cons] at hl
      have hnt : (t ++ l').Nodup := (List.nodup_cons.1 hn).2
      rw [List.cons_append, pm_cons, pm_cons, sumL_app, sumL_zero (l := l') (fun b hb => by rw [ha a (by simp) b hb]; rfl), Nat.add_zero, ← sumL_mul]
      refine sumL_congr fun b hb => ?_
      have h1 := List.length_erase_of_mem hb
      have h2 := List.length_pos_of_mem hb
      cases h : adj a b with
      | false => simp
      | true =>
        simp only [if_true]
        rw [List.erase_append_left _ hb, ih (t.erase b).length (by omega) (t.erase b) l' rfl (fun x hx y hy => ha x (by simp [List.mem_of_mem_erase hx]) y hy)]
        rw [← List.erase_append_left _ hb]
        exact hnt.erase b
/-- Moved without a change of what is beside what. -/
theorem pm_map {φ : α → α} (hφ : ∀ a b, φ a = φ b → a = b) (ha : ∀ a b, adj (φ a) (φ b) = adj a b) : ∀ (n : Nat) (l : List α), l.length = n → pm adj (l.map φ) = pm adj l := by
  have her : ∀ (t : List α) (b : α), (t.map φ).erase (φ b) = (t.erase b).map φ := by
    intro t b
    induction t with
    | nil => rfl
    | cons x t ih =>
      by_cases e : x = b
      · subst e; simp
      · rw [List.map_cons, List.erase_cons_tail (by simpa using fun h => e (hφ _ _ h)), List.erase_cons_tail (by simpa using e), ih, List.map_cons]
  intro n
  induction n using Nat.strongRecOn with
  | _ n ih =>
    intro l hl
    cases l with
    | nil => rfl
    | cons a t =>
      simp only [List.length_cons] at hl
      rw [List.map_cons, pm_cons, pm_cons, sumL_map]
      refine sumL_congr fun b hb => ?_
      have h1 := List.length_erase_of_mem hb
      have h2 := List.length_pos_of_mem hb
      rw [ha, her, ih (t.erase b).length (by omega) (t.erase b) rfl]
end
/-- Cells beside each other. -/
def adjI (a b : Cl) : Bool := decide ((a.1 = b.1 ∧ (a.2 + 1 = b.2 ∨ b.2 + 1 = a.2)) ∨ (a.2 = b.2 ∧ (a.1 + 1 = b.1 ∨ b.1 + 1 = a.1)))
theorem adjI_symm (a b : Cl) : adjI a b = adjI b a := by
  unfold adjI
  refine decide_eq_decide.2 ?_
  omega
/-- The free cells of a grid from one on. -/
def gcF (W : Nat) (f : Nat → Nat → Bool) : Nat → Nat → List Cl
  | 0, _ => []
  | k + 1, a => if f (a % W) (a / W) then (((a % W : Nat) : Int), ((a / W : Nat) : Int)) :: gcF W f k (a + 1) else gcF W f k (a + 1)
theorem mem_gc {W : Nat} {f : Nat → Nat → Bool} {q : Cl} : ∀ {k a : Nat}, q ∈ gcF W f k a ↔ ∃ i, a ≤ i ∧ i < a + k ∧ f (i % W) (i / W) = true ∧ q = (((i % W : Nat) : Int), ((i / W : Nat) : Int))
  | 0, a => by
    unfold gcF
    constructor
    · intro h; simp at h
    · rintro ⟨i, h1, h2, _⟩; omega
  | k + 1, a => by
    have hstep : (q ∈ gcF W f (k + 1) a) ↔ ((f (a % W) (a / W) = true ∧ q = (((a % W : Nat) : Int), ((a / W : Nat) : Int))) ∨ q ∈ gcF W f k (a + 1)) := by
      conv => lhs; unfold gcF
      split
      · rename_i h; rw [List.mem_cons]; simp [h]
      · rename_i h; simp [h]
    rw [hstep, mem_gc (k := k) (a := a + 1)]
    constructor
    · rintro (⟨h1, h2⟩ | ⟨i, h1, h2, h3, h4⟩)
      · exact ⟨a, Nat.le_refl _, by omega, h1, h2⟩
      · exact ⟨i, by omega, by omega, h3, h4⟩
    · rintro ⟨i, h1, h2, h3, h4⟩
      by_cases e : i = a
      · subst e; exact .inl ⟨h3, h4⟩
      · exact .inr ⟨i, by omega, by omega, h3, h4⟩
theorem idx_inj {W i j : Nat} (h : (((i % W : Nat) : Int), ((i / W : Nat) : Int)) = (((j % W : Nat) : Int), ((j / W : Nat) : Int))) : i = j := by
  injection h with h1 h2
  have h1' : i % W = j % W := by omega
  have h2' : i / W = j / W := by omega
  rw [← Nat.div_add_mod i W, ← Nat.div_add_mod j W, h1', h2']
theorem gc_nodup {W : Nat} {f : Nat → Nat → Bool} : ∀ (k a : Nat), (gcF W f k a).Nodup
  | 0, a => List.nodup_nil
  | k + 1, a => by
    unfold gcF
    split
    · refine List.nodup_cons.2 ⟨fun h => ?_, gc_nodup k (a + 1)⟩
      obtain ⟨i, h1, _, _, h2⟩ := mem_gc.1 h
      have := idx_inj h2
      omega
    · exact gc_nodup k (a + 1)
theorem gc_congr {W : Nat} {f g : Nat → Nat → Bool} : ∀ (k a : Nat), (∀ i, a ≤ i → i < a + k → f (i % W) (i / W) = g (i % W) (i / W)) → gcF W f k a = gcF W g k a
  | 0, a, _ => rfl
  | k + 1, a, h => by
    unfold gcF
    rw [h a (Nat.le_refl _) (by omega), gc_congr k (a + 1) (fun i h1 h2 => h i (by omega) (by omega))]
theorem off_at {W i j : Nat} {f : Nat → Nat → Bool} (h : i ≠ j) : offF f (j % W) (j / W) (i % W) (i / W) = f (i % W) (i / W) := by
  refine offF_ne fun e => h ?_
  rw [← Nat.div_add_mod i W, ← Nat.div_add_mod j W, e.1, e.2]
theorem era_hd {α : Type} [DecidableEq α] (a : α) (l : List α) : (a :: l).erase a = l := List.erase_cons_head ..
theorem era_tl {α : Type} [DecidableEq α] {a x : α} (l : List α) (h : x ≠ a) : (x :: l).erase a = x :: l.erase a := List.erase_cons_tail (by simpa using h)
theorem gcF_succ (W : Nat) (f : Nat → Nat → Bool) (k a : Nat) : gcF W f (k + 1) a = if f (a % W) (a / W) then (((a % W : Nat) : Int), ((a / W : Nat) : Int)) :: gcF W f k (a + 1) else gcF W f k (a + 1) := rfl
theorem gc_erase {W j : Nat} {f : Nat → Nat → Bool} : ∀ (k a : Nat), @List.erase Cl instBEqOfDecidableEq (gcF W f k a) (((j % W : Nat) : Int), ((j / W : Nat) : Int)) = gcF W (offF f (j % W) (j / W)) k a
  | 0, a => rfl
  | k + 1, a => by
    by_cases e : a = j
    · subst e
      have hlater : gcF W f k (a + 1) = gcF W (offF f (a % W) (a / W)) k (a + 1) := gc_congr k (a + 1) fun i h1 h2 => (off_at (by omega)).symm
      rw [gcF_succ, gcF_succ, offF_eq]
      simp only [Bool.false_eq_true, if_false]
      split
      · rw [era_hd, hlater]
      · rw [gc_erase k (a + 1)]
    · rw [gcF_succ, gcF_succ, off_at e, ← gc_erase k (a + 1)]
      split
      · rw [era_tl _ (fun h => e (idx_inj h))]
      · rfl
theorem sumL_only {α : Type} [DecidableEq α] {l : List α} {r d : α} {g : α → Nat} (hn : l.Nodup) (hrd : r ≠ d) (h : ∀ b ∈ l, b ≠ r → b ≠ d → g b = 0) : sumL l g = (if r ∈ l then g r else 0) + (if d ∈ l then g d else 0) := by
  have one : ∀ (l : List α), l.Nodup → (∀ b ∈ l, b ≠ d → g b = 0) → sumL l g = if d ∈ l then g d else 0 := fun l hn h => by
    by_cases hd : d ∈ l
    · rw [if_pos hd, sumL_out g hd, sumL_zero (l := l.erase d) (g := g) (fun b hb => h b (hn.mem_erase_iff.1 hb).2 (hn.mem_erase_iff.1 hb).1), Nat.add_zero]
    · rw [if_neg hd, sumL_zero (l := l) (g := g) (fun b hb => h b hb (fun e => hd (e ▸ hb)))]
  by_cases hr : r ∈ l
  · rw [sumL_out g hr, if_pos hr, one (l.erase r) (hn.erase r) (fun b hb hb2 => h b (hn.mem_erase_iff.1 hb).2 (hn.mem_erase_iff.1 hb).1 hb2)]
    congr 1
    by_cases hd : d ∈ l
    · rw [if_pos hd, if_pos (hn.mem_erase_iff.2 ⟨Ne.symm hrd, hd⟩)]
    · rw [if_neg hd, if_neg (fun h => hd (hn.mem_erase_iff.1 h).2)]
  · rw [if_neg hr, Nat.zero_add, one l hn (fun b hb hb2 => h b hb (fun e => hr (e ▸ hb)) hb2)]
/-- The tilings of a grid are the matchings of its cells. -/
theorem cnt_pmL {W H : Nat} (hW : 1 ≤ W) : ∀ (k a : Nat) (f : Nat → Nat → Bool), a + k = W * H → (∀ x y, f x y = true → x < W ∧ y < H) → (∀ i, i < a → f (i % W) (i / W) = false) → cntF W f (W * H) 0 0 = pm adjI (gcF W f k a)
  | 0, a, f, hk, hf, hb => by
    rw [cnt_skip a 0 hk hb]
    unfold gcF
    rw [pm_nil]
    rfl
  | k + 1, a, f, hk, hf, hb => by
    by_cases hfree : f (a % W) (a / W) = true
    · have hin := hf _ _ hfree
      have ih : ∀ d, cntF W (takF f (a % W) (a / W) d) (W * H) 0 0 = pm adjI (gcF W (takF f (a % W) (a / W) d) k (a + 1)) := fun d => cnt_pmL hW k (a + 1) _ (by omega) (fun x y h => hf x y (takF_in h)) (tak_before d hb)
      rw [cnt_first (k := k) hW hf hk hb hfree, ih, ih]
      rw [gcF_succ, if_pos hfree, pm_cons]
      have hdm := Nat.div_add_mod a W
      have hr : ((((a % W : Nat) : Int) + 1, ((a / W : Nat) : Int)) : Cl) ≠ (((a % W : Nat) : Int), ((a / W : Nat) : Int) + 1) := fun e => by injection e with e1 e2; omega
      have honce : ∀ (x y : Nat), x < W → y < H → y * W + x < W * H := fun x y hx hy => by
        have h5 := Nat.mul_le_mul_right W (show y + 1 ≤ H from hy)
        rw [Nat.succ_mul, Nat.mul_comm H W] at h5
        omega
      have hat : ∀ (x y : Nat), x < W → (y * W + x) % W = x ∧ (y * W + x) / W = y := fun x y hx => by
        rw [Nat.mul_comm, Nat.mul_add_mod, Nat.mod_eq_of_lt hx, Nat.mul_add_div (by omega), Nat.div_eq_of_lt hx, Nat.add_zero]
        exact ⟨rfl, rfl⟩
      rw [sumL_only (gc_nodup k (a + 1)) hr fun b hb1 hb2 hb3 => by
        obtain ⟨i, h1, h2, h3, rfl⟩ := mem_gc.1 hb1
        have hi := hf _ _ h3
        have hdi := Nat.div_add_mod i W
        have : adjI (((a % W : Nat) : Int), ((a / W : Nat) : Int)) (((i % W : Nat) : Int), ((i / W : Nat) : Int)) = false := by
          unfold adjI
          refine decide_eq_false fun h => ?_
          simp only at h
          rcases h with ⟨e1, e2 | e2⟩ | ⟨e1, e2 | e2⟩
          · exact hb3 (Prod.ext e1.symm e2.symm)
          · have e3 : i / W + 1 = a / W := by omega
            have e4 : i % W = a % W := by omega
            rw [← e3, Nat.mul_succ, ← e4] at hdm
            omega
          · exact hb2 (Prod.ext e2.symm e1.symm)
          · have e3 : i % W + 1 = a % W := by omega
            have e4 : i / W = a / W := by omega
            rw [← e3, ← e4] at hdm
            omega
        rw [this]; rfl]
      have adjr : adjI (((a % W : Nat) : Int), ((a / W : Nat) : Int)) (((a % W : Nat) : Int) + 1, ((a / W : Nat) : Int)) = true := by unfold adjI; simp
      have adjd : adjI (((a % W : Nat) : Int), ((a / W : Nat) : Int)) (((a % W : Nat) : Int), ((a / W : Nat) : Int) + 1) = true := by unfold adjI; simp
      rw [adjr, adjd]
      simp only [if_true]
      congr 1
      · by_cases hr2 : fitsB f W H (a % W) (a / W) false = true
        · have hr3 := hr2
          unfold fitsB at hr3
          simp only [Bool.and_eq_true, decide_eq_true_eq, onX, onY, Bool.false_eq_true, if_false] at hr3
          obtain ⟨_, k2, _, k4⟩ := hr3
          have e := hat (a % W + 1) (a / W) k2
          have hj : a / W * W + (a % W + 1) = a + 1 := by rw [Nat.mul_comm]; omega
          rw [hj] at e
          have hmem : ((((a % W : Nat) : Int) + 1, ((a / W : Nat) : Int)) : Cl) ∈ gcF W f k (a + 1) := mem_gc.2 ⟨a + 1, Nat.le_refl _, by
            have := honce (a % W + 1) (a / W) k2 hin.2
            omega, by rw [e.1, e.2]; exact k4, by rw [e.1, e.2]; rfl⟩
          rw [if_pos hr2, if_pos hmem]
          have he := gc_erase (W := W) (j := a + 1) (f := f) k (a + 1)
          rw [e.1, e.2] at he
          rw [show ((((a % W : Nat) : Int) + 1, ((a / W : Nat) : Int)) : Cl) = (((a % W + 1 : Nat) : Int), ((a / W : Nat) : Int)) from rfl, he]
          congr 1
          refine gc_congr k (a + 1) fun i h1 h2 => ?_
          unfold takF onX onY
          simp only [Bool.false_eq_true, if_false]
          have o1 := off_at (W := W) (i := i) (j := a + 1) (f := offF f (a % W) (a / W))
          have o2 := off_at (W := W) (i := i) (j := a + 1) (f := f)
          rw [e.1, e.2] at o1 o2
          by_cases ei : i = a + 1
          · subst ei
            rw [e.1, e.2, offF_eq, offF_eq]
          · rw [o1 ei, o2 ei, off_at (by omega)]
        · rw [if_neg hr2, if_neg]
          intro hmem
          obtain ⟨i, h1, h2, h3, h4⟩ := mem_gc.1 hmem
          have hi := hf _ _ h3
          injection h4 with h5 h6
          apply hr2
          have e1 : i % W = a % W + 1 := by omega
          have e2 : i / W = a / W := by omega
          rw [e1, e2] at h3 hi
          unfold fitsB
          simp only [Bool.and_eq_true, decide_eq_true_eq, onX, onY, Bool.false_eq_true, if_false]
          exact ⟨hi.2, hi.1, hfree, h3⟩
      · by_cases hr2 : fitsB f W H (a % W) (a / W) true = true
        · have hr3 := hr2
          unfold fitsB at hr3
          simp only [Bool.and_eq_true, decide_eq_true_eq, onX, onY, if_true] at hr3
          obtain ⟨k1, k2, _, k4⟩ := hr3
          have e := hat (a % W) (a / W + 1) k2
          have hj : (a / W + 1) * W + a % W = a + W := by rw [Nat.succ_mul, Nat.mul_comm]; omega
          rw [hj] at e
          have hmem : ((((a % W : Nat) : Int), ((a / W : Nat) : Int) + 1) : Cl) ∈ gcF W f k (a + 1) := mem_gc.2 ⟨a + W, by omega, by
            have := honce (a % W) (a / W + 1) k2 k1
            omega, by rw [e.1, e.2]; exact k4, by rw [e.1, e.2]; rfl⟩
          rw [if_pos hr2, if_pos hmem]
          have he := gc_erase (W := W) (j := a + W) (f := f) k (a + 1)
          rw [e.1, e.2] at he
          rw [show ((((a % W : Nat) : Int), ((a / W : Nat) : Int) + 1) : Cl) = (((a % W : Nat) : Int), ((a / W + 1 : Nat) : Int)) from rfl, he]
          congr 1
          refine gc_congr k (a + 1) fun i h1 h2 => ?_
          unfold takF onX onY
          simp only [if_true]
          have o1 := off_at (W := W) (i := i) (j := a + W) (f := offF f (a % W) (a / W))
          have o2 := off_at (W := W) (i := i) (j := a + W) (f := f)
          rw [e.1, e.2] at o1 o2
          by_cases ei : i = a + W
          · subst ei
            rw [e.1, e.2, offF_eq, offF_eq]
          · rw [o1 ei, o2 ei, off_at (by omega)]
        · rw [if_neg hr2, if_neg]
          intro hmem
          obtain ⟨i, h1, h2, h3, h4⟩ := mem_gc.1 hmem
          have hi := hf _ _ h3
          injection h4 with h5 h6
          apply hr2
          have e1 : i % W = a % W := by omega
          have e2 : i / W = a / W + 1 := by omega
          rw [e1, e2] at h3 hi
          unfold fitsB
          simp only [Bool.and_eq_true, decide_eq_true_eq, onX, onY, if_true]
          exact ⟨hi.2, hi.1, hfree, h3⟩
    · rw [gcF_succ, if_neg hfree]
      exact cnt_pmL hW k (a + 1) f (by omega) hf fun i hi => by
        by_cases e : i = a
        · subst e; simpa using hfree
        · exact hb i (by omega)
end Go.Proofs.YtcdhimnmbpllgaaDoor

namespace Go.Proofs.YtcdhimnmbpllgaaDoor
set_option linter.unusedVariables false
set_option linter.unusedSimpArgs false
set_option maxHeartbeats 1000000

theorem hsR_drw {p : List ByteArray} (hp : RegOk p) (f : Nat → Nat → Bool) (x y : Nat) : hsR (drawnL p f) x y = (decide (x < wd p) && (decide (y < p.length) && f x y)) := hsR_drawnK hp.h1 x y
theorem cntV_eq {p : List ByteArray} (hq : isReg p = true) : cntV p = cntF (wd p) (hsR p) (wd p * p.length) 0 0 := by unfold cntV waysV; rw [hq, if_pos rfl, Nat.sub_zero]
theorem cnt_cells {p : List ByteArray} (hq : isReg p = true) {l : List Cl} (hn : l.Nodup) (hl : ∀ q, q ∈ l ↔ inR p q) : cntV p = pm adjI l := by
  have hp := (isReg.ok hq).1
  rw [cntV_eq hq, cnt_pmL hp.w1 (wd p * p.length) 0 (hsR p) (Nat.zero_add _) (fun x y h => hsR_in x y h) (fun i hi => by omega)]
  refine pm_same adjI_symm (gc_nodup _ _) hn fun q => ?_
  rw [mem_gc, hl]
  constructor
  · rintro ⟨i, _, _, h, rfl⟩
    exact h
  · intro h
    obtain ⟨x, y, h1, h2, h3, h4⟩ := hsI_nat (show hsI p q.1 q.2 = true from h)
    have e1 : (y * wd p + x) % wd p = x := by rw [Nat.mul_comm, Nat.mul_add_mod, Nat.mod_eq_of_lt h3]
    have e2 : (y * wd p + x) / wd p = y := by rw [Nat.mul_comm, Nat.mul_add_div (by omega), Nat.div_eq_of_lt h3, Nat.add_zero]
    have h5 := Nat.mul_le_mul_right (wd p) (show y + 1 ≤ p.length from h4)
    rw [Nat.succ_mul, Nat.mul_comm p.length] at h5
    refine ⟨y * wd p + x, Nat.zero_le _, by omega, ?_, ?_⟩
    · rw [e1, e2]
      show hsI p (x : Int) (y : Int) = true
      rw [← h1, ← h2]; exact h
    · rw [e1, e2]; exact Prod.ext h1 h2
theorem cells_nodup (p : List ByteArray) : (gcF (wd p) (hsR p) (wd p * p.length) 0).Nodup := gc_nodup _ _
theorem mem_all {p : List ByteArray} (hp : RegOk p) (q : Cl) : q ∈ gcF (wd p) (hsR p) (wd p * p.length) 0 ↔ inR p q := by
  rw [mem_gc]
  constructor
  · rintro ⟨i, _, _, h, rfl⟩
    exact h
  · intro h
    obtain ⟨x, y, h1, h2, h3, h4⟩ := hsI_nat (show hsI p q.1 q.2 = true from h)
    have e1 : (y * wd p + x) % wd p = x := by rw [Nat.mul_comm, Nat.mul_add_mod, Nat.mod_eq_of_lt h3]
    have e2 : (y * wd p + x) / wd p = y := by rw [Nat.mul_comm, Nat.mul_add_div (by omega), Nat.div_eq_of_lt h3, Nat.add_zero]
    have h5 := Nat.mul_le_mul_right (wd p) (show y + 1 ≤ p.length from h4)
    rw [Nat.succ_mul, Nat.mul_comm p.length] at h5
    refine ⟨y * wd p + x, Nat.zero_le _, by omega, ?_, ?_⟩
    · rw [e1, e2]
      show hsI p (x : Int) (y : Int) = true
      rw [← h1, ← h2]; exact h
    · rw [e1, e2]; exact Prod.ext h1 h2
theorem cnt_moved {p q : List ByteArray} (hp : isReg p = true) (hq : isReg q = true) {φ : Cl → Cl} (hφ : ∀ a b, φ a = φ b → a = b) (ha : ∀ a b, adjI (φ a) (φ b) = adjI a b) (h : ∀ c, inR q c ↔ ∃ a, inR p a ∧ φ a = c) : cntV q = cntV p := by
  have hn := cells_nodup p
  have hm := mem_all (isReg.ok hp).1
  rw [cnt_cells hp hn hm, cnt_cells hq (l := (gcF (wd p) (hsR p) (wd p * p.length) 0).map φ) ?_ fun c => ?_]
  · exact pm_map hφ ha _ _ rfl
  · rw [List.Nodup, List.pairwise_map]
    exact hn.imp fun hab e => hab (hφ _ _ e)
  · rw [h, List.mem_map]
    exact exists_congr fun a => and_congr_left fun _ => hm a
theorem cnt_turn {p : List ByteArray} (hq : isReg p = true) : isReg (turnL p) = true ∧ cntV (turnL p) = cntV p := by
  have hp := (isReg.ok hq).1
  have hr : isReg (turnL p) = true := drawnK_reg ⟨hp.h1, hp.h8⟩ ⟨hp.w1, hp.w8⟩
  refine ⟨hr, cnt_moved (φ := fun c => ((p.length : Int) - 1 - c.2, c.1)) hq hr (fun a b h => ?_) (fun a b => ?_) fun c => ?_⟩
  · injection h with h1 h2
    exact Prod.ext h2 (by omega)
  · unfold adjI
    refine decide_eq_decide.2 ?_
    simp only
    omega
  · constructor
    · intro h
      obtain ⟨x, y, h1, h2, _, _⟩ := hsI_nat (show hsI (turnL p) c.1 c.2 = true from h)
      have h' : hsI (turnL p) c.1 c.2 = true := h
      rw [h1, h2] at h'
      have h3 : hsR (turnL p) x y = true := h'
      unfold turnL at h3
      rw [hsR_drawnK hp.w1] at h3
      simp only [Bool.and_eq_true, decide_eq_true_eq] at h3
      exact ⟨((y : Int), ((p.length - 1 - x : Nat) : Int)), h3.2.2, Prod.ext (by simp only; omega) (by simp only; omega)⟩
    · rintro ⟨a, h, rfl⟩
      obtain ⟨x, y, h1, h2, h3, h4⟩ := hsI_nat (show hsI p a.1 a.2 = true from h)
      have h' : hsI p a.1 a.2 = true := h
      rw [h1, h2] at h'
      have h5 : hsR (turnL p) (p.length - 1 - y) x = true := by
        unfold turnL
        rw [hsR_drawnK hp.w1]
        simp only [Bool.and_eq_true, decide_eq_true_eq]
        refine ⟨by omega, h3, ?_⟩
        rw [show p.length - 1 - (p.length - 1 - y) = y by omega]
        exact h'
      show hsI (turnL p) ((p.length : Int) - 1 - a.2) a.1 = true
      rw [h1, h2, show (p.length : Int) - 1 - (y : Int) = ((p.length - 1 - y : Nat) : Int) by omega]
      exact h5
theorem cnt_mir {p : List ByteArray} (hq : isReg p = true) : isReg (mirL p) = true ∧ cntV (mirL p) = cntV p := by
  have hp := (isReg.ok hq).1
  have hr : isReg (mirL p) = true := drawnK_reg ⟨hp.w1, hp.w8⟩ ⟨hp.h1, hp.h8⟩
  refine ⟨hr, cnt_moved (φ := fun c => ((wd p : Int) - 1 - c.1, c.2)) hq hr (fun a b h => ?_) (fun a b => ?_) fun c => ?_⟩
  · injection h with h1 h2
    exact Prod.ext (by omega) h2
  · unfold adjI
    refine decide_eq_decide.2 ?_
    simp only
    omega
  · constructor
    · intro h
      obtain ⟨x, y, h1, h2, _, _⟩ := hsI_nat (show hsI (mirL p) c.1 c.2 = true from h)
      have h' : hsI (mirL p) c.1 c.2 = true := h
      rw [h1, h2] at h'
      have h3 : hsR (mirL p) x y = true := h'
      unfold mirL at h3
      rw [hsR_drawnK hp.h1] at h3
      simp only [Bool.and_eq_true, decide_eq_true_eq] at h3
      exact ⟨(((wd p - 1 - x : Nat) : Int), (y : Int)), h3.2.2, Prod.ext (by simp only; omega) (by simp only; omega)⟩
    · rintro ⟨a, h, rfl⟩
      obtain ⟨x, y, h1, h2, h3, h4⟩ := hsI_nat (show hsI p a.1 a.2 = true from h)
      have h' : hsI p a.1 a.2 = true := h
      rw [h1, h2] at h'
      have h5 : hsR (mirL p) (wd p - 1 - x) y = true := by
        unfold mirL
        rw [hsR_drawnK hp.h1]
        simp only [Bool.and_eq_true, decide_eq_true_eq]
        refine ⟨by omega, h4, ?_⟩
        rw [show wd p - 1 - (wd p - 1 - x) = x by omega]
        exact h'
      show hsI (mirL p) ((wd p : Int) - 1 - a.1) a.2 = true
      rw [h1, h2, show (wd p : Int) - 1 - (x : Int) = ((wd p - 1 - x : Nat) : Int) by omega]
      exact h5
/-- A product. -/
def prL : List Nat → Nat
  | [] => 1
  | a :: l => a * prL l
theorem prL_snoc : ∀ (l : List Nat) (a : Nat), prL (l ++ [a]) = prL l * a
  | [], a => by simp [prL]
  | b :: l, a => by
    show b * prL (l ++ [a]) = b * prL l * a
    rw [prL_snoc l a, Nat.mul_assoc]
theorem step_adj {p : List ByteArray} {a b : Cl} (h : adjI a b = true) : b ∈ stepL fourL a := by
  have h := of_decide_eq_true h
  unfold stepL fourL
  simp only [List.map_cons, List.map_nil, List.mem_cons, List.not_mem_nil, or_false]
  rcases h with ⟨h1, h2 | h2⟩ | ⟨h1, h2 | h2⟩
  · exact .inr (.inr (.inr (Prod.ext (by simp only; omega) (by simp only; omega))))
  · exact .inl (Prod.ext (by simp only; omega) (by simp only; omega))
  · exact .inr (.inr (.inl (Prod.ext (by simp only; omega) (by simp only; omega))))
  · exact .inr (.inl (Prod.ext (by simp only; omega) (by simp only; omega)))
theorem part_reg {p : List ByteArray} (hq : isReg p = true) (f : Nat → Nat → Bool) : isReg (drawnL p f) = true := drawn_reg (isReg.ok hq).1 f
theorem part_in {p : List ByteArray} (hq : isReg p = true) (sn : List Cl) (hs : ∀ q ∈ sn, inR p q) (q : Cl) : inR (drawnL p (memB sn)) q ↔ q ∈ sn := by
  have hp := (isReg.ok hq).1
  constructor
  · intro h
    obtain ⟨x, y, h1, h2, _, _⟩ := hsI_nat (show hsI (drawnL p (memB sn)) q.1 q.2 = true from h)
    have h' : hsI (drawnL p (memB sn)) q.1 q.2 = true := h
    rw [h1, h2] at h'
    have h3 : hsR (drawnL p (memB sn)) x y = true := h'
    rw [hsR_drw hp] at h3
    simp only [Bool.and_eq_true, decide_eq_true_eq] at h3
    have := of_decide_eq_true h3.2.2
    rw [show q = ((x : Int), (y : Int)) from Prod.ext h1 h2]
    exact this
  · intro h
    obtain ⟨x, y, h1, h2, h3, h4⟩ := hsI_nat (show hsI p q.1 q.2 = true from hs q h)
    have e : q = ((x : Int), (y : Int)) := Prod.ext h1 h2
    subst e
    show hsR (drawnL p (memB sn)) x y = true
    rw [hsR_drw hp]
    simp only [Bool.and_eq_true, decide_eq_true_eq]
    exact ⟨h3, h4, decide_eq_true h⟩
theorem nodup_app {α : Type} {l l' : List α} (h : l.Nodup) (h' : l'.Nodup) (hd : ∀ a ∈ l, ∀ b ∈ l', a ≠ b) : (l ++ l').Nodup := List.nodup_append.2 ⟨h, h', hd⟩
/-- The parts' numbers, multiplied. -/
theorem parts_prod {p : List ByteArray} (hq : isReg p = true) : ∀ (l acc : List Cl) (o : List (Nat → Nat → Bool)), PtsOf (RP p) (inR p) acc l o → (∀ a ∈ acc, inR p a) → (∀ q, inR p q → (¬ ∃ a ∈ acc, RP p a q) → q ∈ l) → ∀ u : List Cl, u.Nodup → (∀ q, q ∈ u ↔ inR p q ∧ ¬ ∃ a ∈ acc, RP p a q) → pm adjI u = prL (o.map fun f => cntV (drawnL p f))
  | [], acc, o, h, hA, hl, u, hn, hu => by
    have e : o = [] := h
    have e2 : u = [] := List.eq_nil_iff_forall_not_mem.2 fun q hq => by
      have := (hu q).1 hq
      exact absurd (hl q this.1 this.2) (by simp)
    rw [e, e2]; rfl
  | c :: l, acc, o, h, hA, hl, u, hn, hu => by
    unfold PtsOf at h
    rcases h with ⟨h1, h2⟩ | ⟨h1, h2, sn, o', h3, rfl, h4⟩
    · refine parts_prod hq l acc o h2 hA (fun q hq1 hq2 => ?_) u hn hu
      rcases List.mem_cons.1 (hl q hq1 hq2) with rfl | h
      · rcases h1 with h1 | h1
        · exact absurd hq1 h1
        · exact absurd h1 hq2
      · exact h
    · have hsn : ∀ q ∈ sn, inR p q := fun q h => ((h3 q).1 h).ok' h1
      have hu1 : ∀ q, q ∈ u.filter (fun q => decide (q ∈ sn)) ↔ q ∈ sn := fun q => by
        rw [List.mem_filter, hu, decide_eq_true_eq]
        refine ⟨fun h => h.2, fun h => ⟨⟨hsn q h, ?_⟩, h⟩⟩
        rintro ⟨a, ha, hr⟩
        refine h2 ⟨a, ha, hr.trans (Rch.symm (fun x y hxy => ?_) h1 ((h3 q).1 h))⟩
        unfold stepL fourL at *
        simp only [List.map_cons, List.map_nil, List.mem_cons, List.not_mem_nil, or_false] at hxy ⊢
        rcases hxy with rfl | rfl | rfl | rfl
        · exact .inr (.inr (.inr (Prod.ext (by simp only; omega) (by simp only; omega))))
        · exact .inr (.inr (.inl (Prod.ext (by simp only; omega) (by simp only; omega))))
        · exact .inr (.inl (Prod.ext (by simp only; omega) (by simp only; omega)))
        · exact .inl (Prod.ext (by simp only; omega) (by simp only; omega))
      have hu2 : ∀ q, q ∈ u.filter (fun q => !decide (q ∈ sn)) ↔ inR p q ∧ ¬ ∃ a ∈ c :: acc, RP p a q := fun q => by
        rw [List.mem_filter, hu, Bool.not_eq_true', decide_eq_false_iff_not]
        constructor
        · rintro ⟨⟨k1, k2⟩, k3⟩
          refine ⟨k1, ?_⟩
          rintro ⟨a, ha, hr⟩
          rcases List.mem_cons.1 ha with rfl | ha
          · exact k3 ((h3 q).2 hr)
          · exact k2 ⟨a, ha, hr⟩
        · rintro ⟨k1, k2⟩
          exact ⟨⟨k1, fun ⟨a, ha, hr⟩ => k2 ⟨a, List.mem_cons_of_mem _ ha, hr⟩⟩, fun hs => k2 ⟨c, List.mem_cons_self .., (h3 q).1 hs⟩⟩
      have hn1 : (u.filter (fun q => decide (q ∈ sn))).Nodup := hn.sublist (List.filter_sublist ..)
      have hn2 : (u.filter (fun q => !decide (q ∈ sn))).Nodup := hn.sublist (List.filter_sublist ..)
      have hnn := nodup_app hn1 hn2 fun a ha b hb e => by
        subst e
        have k1 := (List.mem_filter.1 ha).2
        have k2 := (List.mem_filter.1 hb).2
        rw [k1] at k2; cases k2
      have e1 : pm adjI u = pm adjI (u.filter (fun q => decide (q ∈ sn)) ++ u.filter (fun q => !decide (q ∈ sn))) := pm_same adjI_symm hn hnn fun q => by
        rw [List.mem_append, List.mem_filter, List.mem_filter]
        cases decide (q ∈ sn) <;> simp
      rw [e1, pm_app _ _ _ rfl ?_ hnn, ← cnt_cells (part_reg hq (memB sn)) hn1 fun q => (hu1 q).trans (part_in hq sn hsn q).symm]
      · rw [parts_prod hq l (c :: acc) o' h4 (fun a ha => by
          rcases List.mem_cons.1 ha with rfl | ha
          · exact h1
          · exact hA a ha) (fun q hq1 hq2 => by
          rcases List.mem_cons.1 (hl q hq1 fun ⟨a, ha, hr⟩ => hq2 ⟨a, List.mem_cons_of_mem _ ha, hr⟩) with rfl | h
          · exact absurd ⟨q, List.mem_cons_self .., .refl⟩ hq2
          · exact h) _ hn2 hu2]
        rfl
      · intro a ha b hb
        cases hab : adjI a b with
        | false => rfl
        | true =>
          have ka := (hu1 a).1 ha
          have kb := (hu2 b).1 hb
          exact absurd ⟨c, List.mem_cons_self .., Rch.step ((h3 a).1 ka) (step_adj (p := p) hab) kb.1⟩ kb.2
theorem parts_cnt {p : List ByteArray} (hq : isReg p = true) {fs : List (Nat → Nat → Bool)} (h : PtsOf (RP p) (inR p) [] (cellsL p) fs) : prL (fs.map fun f => cntV (drawnL p f)) = cntV p := by
  have hp := (isReg.ok hq).1
  rw [cnt_cells hq (cells_nodup p) (mem_all hp)]
  exact (parts_prod hq _ _ _ h (by simp) (fun q h _ => mem_cells.2 h) _ (cells_nodup p) fun q => by rw [mem_all hp]; simp).symm
theorem cnt_drawn {p : List ByteArray} (hq : isReg p = true) {f : Nat → Nat → Bool} (hf : ∀ x y, f x y = true → x < wd p ∧ y < p.length) : cntV (drawnL p f) = cntF (wd p) f (wd p * p.length) 0 0 := by
  have hp := (isReg.ok hq).1
  have e : hsR (drawnL p f) = f := by
    funext x y
    rw [hsR_drw hp]
    cases h : f x y with
    | false => simp
    | true => rw [decide_eq_true (hf x y h).1, decide_eq_true (hf x y h).2]; rfl
  rw [cntV_eq (part_reg hq f), e, drawnL_wd hp, drawnL_len]
theorem firsts_eq {p : List ByteArray} (hq : isReg p = true) {x y : Nat} (hx : x < wd p) (hy : y < p.length) (hxy : hsR p x y = true) (hb : ∀ i, i < y * wd p + x → hsR p (i % wd p) (i / wd p) = false) :
    cntV p = (if hsI p ((x : Int) + 1) y then cntV (drawnL p (takF (hsR p) x y false)) else 0) + (if hsI p x ((y : Int) + 1) then cntV (drawnL p (takF (hsR p) x y true)) else 0) := by
  have hp := (isReg.ok hq).1
  have e1 : (y * wd p + x) % wd p = x := by rw [Nat.mul_comm, Nat.mul_add_mod, Nat.mod_eq_of_lt hx]
  have e2 : (y * wd p + x) / wd p = y := by rw [Nat.mul_comm, Nat.mul_add_div (by omega), Nat.div_eq_of_lt hx, Nat.add_zero]
  have h5 := Nat.mul_le_mul_right (wd p) (show y + 1 ≤ p.length from hy)
  rw [Nat.succ_mul, Nat.mul_comm p.length] at h5
  have h := cnt_first (W := wd p) (H := p.length) (f := hsR p) (at' := y * wd p + x) (k := wd p * p.length - (y * wd p + x) - 1) hp.w1 (fun x y h => hsR_in x y h) (by omega) hb (by rw [e1, e2]; exact hxy)
  rw [e1, e2] at h
  rw [cntV_eq hq, h, cnt_drawn hq (f := takF (hsR p) x y false) (fun a b h => hsR_in a b (takF_in h)), cnt_drawn hq (f := takF (hsR p) x y true) (fun a b h => hsR_in a b (takF_in h))]
  have f1 : fitsB (hsR p) (wd p) p.length x y false = hsI p ((x : Int) + 1) y := by
    unfold fitsB onX onY
    simp only [Bool.false_eq_true, if_false]
    rw [decide_eq_true hy, hxy, Bool.true_and, Bool.true_and]
    cases k : hsI p ((x : Int) + 1) y with
    | true =>
      obtain ⟨a, b, k1, k2, k3, k4⟩ := hsI_nat k
      have k' : hsR p (x + 1) y = true := k
      rw [k', decide_eq_true (show x + 1 < wd p by omega)]; rfl
    | false =>
      have k' : hsR p (x + 1) y = false := k
      rw [k', Bool.and_false]
  have f2 : fitsB (hsR p) (wd p) p.length x y true = hsI p x ((y : Int) + 1) := by
    unfold fitsB onX onY
    simp only [if_true]
    rw [decide_eq_true hx, hxy, Bool.true_and, Bool.true_and]
    cases k : hsI p x ((y : Int) + 1) with
    | true =>
      obtain ⟨a, b, k1, k2, k3, k4⟩ := hsI_nat k
      have k' : hsR p x (y + 1) = true := k
      rw [k', decide_eq_true (show y + 1 < p.length by omega)]; rfl
    | false =>
      have k' : hsR p x (y + 1) = false := k
      rw [k', Bool.and_false]
  rw [f1, f2]
theorem firsts_none {p : List ByteArray} (hq : isReg p = true) (hb : ∀ i, i < wd p * p.length → hsR p (i % wd p) (i / wd p) = false) : cntV p = 1 := by
  rw [cntV_eq hq, cnt_skip (wd p * p.length) 0 (Nat.add_zero _) hb]
  rfl
end Go.Proofs.YtcdhimnmbpllgaaDoor
