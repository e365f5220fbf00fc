/- The library's functions that the program calls: what each answers, in these texts' words. Conditions: the texts are short; bytealg's variable holds some number. -/
import Derived.Test.YtmhgnaemafohfaaDoorShelf
import Derived.Test.YtmhgnaemafohfaaDoorHttpB
import Derived.Shelf.Strings.BuilderX
import Derived.Shelf.Strings.BuilderK
import Derived.Lib.CountLaws
import Derived.Lib.SplitLaws
import Derived.Lib.CutLaws
namespace Go.Proofs.YtmhgnaemafohfaaDoor
open Go.RowKit
set_option linter.unusedVariables false
set_option linter.unusedSimpArgs false
set_option maxRecDepth 100000

def ren167 : Go.Shelf.Ren := ⟨fun | 167 => 28 | 240 => 40 | 276 => 60 | n => n,
  fun | 0 => 0 | 4 => 4 | 5 => 5 | 9 => 9 | 20 => 20 | 37 => 22 | 70 => 60 | 72 => 62 | 75 => 65 | 80 => 67 | 164 => 97 | n => n, fun n => n⟩
theorem lays167 : Go.Proofs.Lays.n167 Tryd.prog ren167 := {
  mixed := by kernel_rfl
  f167 := Tryd.func28.trans (congrArg some (by kernel_rfl))
  f240 := Tryd.func40.trans (congrArg some (by kernel_rfl))
  f276 := Tryd.func60.trans (congrArg some (by kernel_rfl))
  t0 := Tryd.underlying0
  a0 := Tryd.isAgg0
  z0 := Tryd.sizeOf0
  v0 := Tryd.zeroValue0
  t4 := Tryd.underlying4
  a4 := Tryd.isAgg4
  z4 := Tryd.sizeOf4
  v4 := Tryd.zeroValue4
  t5 := Tryd.underlying5
  a5 := Tryd.isAgg5
  z5 := Tryd.sizeOf5
  v5 := Tryd.zeroValue5
  t9 := Tryd.underlying9
  a9 := Tryd.isAgg9
  z9 := Tryd.sizeOf9
  v9 := Tryd.zeroValue9
  t20 := Tryd.underlying20
  a20 := Tryd.isAgg20
  z20 := Tryd.sizeOf20
  v20 := Tryd.zeroValue20
  t37 := Tryd.underlying22
  a37 := Tryd.isAgg22
  z37 := Tryd.sizeOf22
  v37 := Tryd.zeroValue22
  t70 := Tryd.underlying60
  a70 := Tryd.isAgg60
  z70 := Tryd.sizeOf60
  v70 := Tryd.zeroValue60
  t72 := Tryd.underlying62
  a72 := Tryd.isAgg62
  z72 := Tryd.sizeOf62
  v72 := Tryd.zeroValue62
  t75 := Tryd.underlying65
  a75 := Tryd.isAgg65
  z75 := Tryd.sizeOf65
  v75 := Tryd.zeroValue65
  t164 := Tryd.underlying97
  a164 := Tryd.isAgg97
  z164 := Tryd.sizeOf97
  v164 := Tryd.zeroValue97 }
theorem extra167 : Go.Proofs.Builder.Extra Tryd.prog ren167 := {
  sizeBuilder := by kernel_rfl
  liesBuilder := by kernel_rfl
  t5 := Tryd.underlying5
  a5 := Tryd.isAgg5
  z5 := Tryd.sizeOf5
  v5 := Tryd.zeroValue5
  infoByte := by kernel_rfl
  cellsByte := by kernel_rfl
  sizeByte := by kernel_rfl
  neB5 := by decide }
theorem writeByte_any (B b : Nat) (bs : List Value) (c : Int) (w : World) (h : Lib.IsBuilder 62 5 B b bs w) (hlen : bs.length + 1 ≤ 140737488355328) (hBw : B ≤ w.heap.size) :
    Calls Tryd.prog 28 #[.pointer (some ⟨b, 0, none⟩), .int .u8 c] w fun e w' => e = .returned .nilIface ∧ (Lib.BuilderAt 62 5 B b (.pointer (some ⟨b, 0, none⟩)) (bs ++ [.int .u8 c]) w' ∧ Below B w w') :=
  Any.Builder_WriteByte lays167 extra167 B b bs c w h hlen hBw

/-- bytealg's variable holds some number. -/
def Glob (w : World) : Prop := ∃ m, w.cell? ⟨3, 0, none⟩ = some (.int .i64 m)
theorem Glob.next {w w' : World} (h : Glob w) (hb : Below w.heap.size w w') : Glob w' := by obtain ⟨m, hm⟩ := h; exact ⟨m, Below.keeps hb hm⟩

theorem index_where (t : B) (ht : t ≠ []) : ∀ s : B, Lib.index s t = if whereL t s < s.length then (whereL t s : Int) else -1
  | [] => by cases t with | nil => exact absurd rfl ht | cons a l => rfl
  | c :: r => by
    have ih := index_where t ht r
    have hle := whereL_le t r
    unfold Lib.index whereL
    by_cases hp : t.isPrefixOf (c :: r) = true
    · simp [hp]
    · simp only [hp, if_false, Bool.false_eq_true]
      rw [ih]
      by_cases hl : whereL t r < r.length
      · simp only [hl, if_true]
        rw [if_neg (by simp), if_pos (by simp; omega)]
        rfl
      · rw [if_neg hl]
        rw [if_pos (by simp), if_neg (by simp; omega)]
theorem splitB_cut : ∀ (n : Nat) (s : ByteArray), s.size = n → (Lib.splitB ⟨#[13, 10]⟩ 0 (Lib.countB s ⟨#[13, 10]⟩) s).map ByteArray.toList = cutL s.toList := by
  intro n
  induction n using Nat.strongRecOn with
  | _ n ih =>
    intro s hs
    have hi : Lib.indexB s ⟨#[13, 10]⟩ = if whereL [13, 10] s.toList < s.toList.length then (whereL [13, 10] s.toList : Int) else -1 := by
      have := index_where [13, 10] (by simp) s.toList
      rw [← this, toL_eq]
    by_cases hl : whereL [13, 10] s.toList < s.toList.length
    · rw [if_pos hl] at hi
      have hroom := whereL_room hl
      rw [len_toL] at hroom
      have hroom' : whereL [13, 10] s.toList + 2 ≤ s.size := hroom
      rw [Lib.countB_hit s ⟨#[13, 10]⟩ _ (by decide) hi, Nat.add_comm, Lib.splitB_hit _ _ _ _ _ hi, List.map_cons, cutL_yes hl]
      have hsz : (⟨#[13, 10]⟩ : ByteArray).size = 2 := rfl
      rw [hsz]
      have h := ih (s.extract (whereL [13, 10] s.toList + 2) s.size).size (by rw [ByteArray.size_extract]; omega) _ rfl
      rw [h, toL_from, Nat.add_zero, toL_to]
    · rw [if_neg hl] at hi
      rw [Lib.splitB_miss _ _ _ _ hi, cutL_no hl]; rfl
theorem strs_splitB (s : ByteArray) : (Lib.splitB ⟨#[13, 10]⟩ 0 (Lib.countB s ⟨#[13, 10]⟩) s).map Value.string = strs (cutL s.toList) := by
  rw [← splitB_cut _ s rfl]; unfold strs; rw [List.map_map]; apply List.map_congr_left; intro x _; simp [ofL_toL]
theorem split_any (s : ByteArray) (hs : s.size ≤ 1048576) (w : World) (hg : Glob w) :
    Calls Tryd.prog 35 #[.string s, .string ⟨#[13, 10]⟩] w fun e w' => ∃ v, e = .returned v ∧ w'.ownsRow w.heap.size 9 1 v (cutL s.toList).length (strs (cutL s.toList)) ∧ Below w.heap.size w w' := by
  obtain ⟨m, hm⟩ := hg
  refine (Tryd.strings_Split s ⟨#[13, 10]⟩ m w (by omega) hm (by decide)).mono ?_
  rintro e w' ⟨rfl, rfl⟩
  have hlen : (cutL s.toList).length = Lib.countB s ⟨#[13, 10]⟩ + 1 := by
    have h1 := Lib.splitB_all ⟨#[13, 10]⟩ (by decide) 0 _ s rfl
    have h2 := congrArg List.length (splitB_cut _ s rfl)
    rw [List.length_map] at h2; omega
  have hle := Lib.countB_le ⟨#[13, 10]⟩ (by decide) s.size s (Nat.le_refl _)
  refine ⟨_, rfl, ?_, (Below.refl _ _).alloc (Nat.le_refl _) _⟩
  rw [strs_splitB, hlen]
  have h := World.ownsRow_lit (base := w.heap.size) (e := 9) (size := 1) w (strs (cutL s.toList)).toArray (Lib.countB s ⟨#[13, 10]⟩ + 1) (Nat.le_refl _) (by unfold maxLen; omega) (by simp [strs_len, hlen])
  simpa using h

/-- 'strings.Cut' at a blank. -/
theorem cutB_any (s : ByteArray) (hs : s.size ≤ 1048576) (w : World) (hg : Glob w) :
    Calls Tryd.prog 48 #[.string s, .string ⟨#[32]⟩] w fun e w' => e = .returned (.tuple #[.string (ofL (s.toList.take (whereL [32] s.toList))), .string (ofL (s.toList.drop (whereL [32] s.toList + 1))), .bool (decide (whereL [32] s.toList < s.toList.length))]) ∧ ∃ n, w' = w.drewN n := by
  obtain ⟨m, hm⟩ := hg
  refine (Tryd.strings_Cut s ⟨#[32]⟩ m w (by omega) hm).mono ?_
  rintro e w' ⟨rfl, hn⟩
  refine ⟨?_, hn⟩
  have hd : (⟨#[32]⟩ : ByteArray).data.toList = [32] := rfl
  have hx := index_where [32] (by simp) s.toList
  rw [hd, ← toL_eq]
  unfold Lib.cut
  by_cases hl : whereL [32] s.toList < s.toList.length
  · rw [if_pos hl] at hx
    rw [hx, if_pos (by omega), decide_eq_true hl]
    simp [ofL]
  · rw [if_neg hl] at hx
    have hle := whereL_le [32] s.toList
    rw [hx, if_neg (by omega), decide_eq_false hl, List.take_of_length_le (by omega), List.drop_of_length_le (by omega)]
    rfl
/-- 'strings.IndexByte': the place, or -1. -/
theorem indexByte_where (c : UInt8) : ∀ s : B, Lib.indexByte s c = if whereL [c] s < s.length then (whereL [c] s : Int) else -1
  | [] => rfl
  | d :: r => by
    have ih := indexByte_where c r
    unfold Lib.indexByte whereL
    by_cases h : d = c
    · subst h; simp [List.isPrefixOf]
    · have h1 : (d == c) = false := by simpa using h
      have h2 : ([c].isPrefixOf (d :: r)) = false := by simp [List.isPrefixOf]; exact fun e => h e.symm
      rw [h1, h2, ih]
      by_cases hl : whereL [c] r < r.length
      · simp only [hl, if_true, Bool.false_eq_true, if_false]
        rw [if_neg (by simp), if_pos (by simp; omega)]; rfl
      · simp only [hl, Bool.false_eq_true, if_false]
        rw [if_pos (by simp), if_neg (by simp; omega)]
theorem ibyte_any (c : UInt8) (s : ByteArray) (w : World) :
    Calls Tryd.prog 36 #[.string s, .int .u8 c.toNat] w fun e w' => e = .returned (.int .i64 (if whereL [c] s.toList < s.size then (whereL [c] s.toList : Int) else -1)) ∧ w = w' := by
  refine (Tryd.strings_IndexByte s c.toNat w).mono ?_
  rintro e w' ⟨rfl, rfl⟩
  refine ⟨?_, rfl⟩
  rw [← toL_eq, indexByte_where, len_toL]
  simp
end Go.Proofs.YtmhgnaemafohfaaDoor
