/- The library's functions that the program calls: what each answers, in these texts' words. Conditions: the texts are short; bytealg's variable holds some number. -/
import Derived.Test.YtmhgnaemafohfaaGreatDoorShelf
import Derived.Test.YtmhgnaemafohfaaGreatDoorHttpB
import Derived.Shelf.Strings.BuilderX
import Derived.Shelf.Strings.BuilderK
import Derived.Lib.CountLaws
import Derived.Lib.SplitLaws
import Derived.Lib.CutLaws
namespace Go.Proofs.YtmhgnaemafohfaaGreatDoor
open Go.RowKit
set_option linter.unusedVariables false
set_option linter.unusedSimpArgs false
set_option maxRecDepth 100000

def ren167 : Go.Shelf.Ren := ⟨fun | 167 => 100 | 240 => 117 | 276 => 137 | n => n,
  fun | 0 => 0 | 4 => 4 | 5 => 5 | 9 => 9 | 20 => 20 | 37 => 22 | 70 => 138 | 72 => 140 | 75 => 142 | 80 => 144 | 164 => 165 | n => n, fun n => n⟩
theorem lays167 : Go.Proofs.Lays.n167 Tryz.prog ren167 := {
  mixed := by kernel_rfl
  f167 := Tryz.func100.trans (congrArg some (by kernel_rfl))
  f240 := Tryz.func117.trans (congrArg some (by kernel_rfl))
  f276 := Tryz.func137.trans (congrArg some (by kernel_rfl))
  t0 := Tryz.underlying0
  a0 := Tryz.isAgg0
  z0 := Tryz.sizeOf0
  v0 := Tryz.zeroValue0
  t4 := Tryz.underlying4
  a4 := Tryz.isAgg4
  z4 := Tryz.sizeOf4
  v4 := Tryz.zeroValue4
  t5 := Tryz.underlying5
  a5 := Tryz.isAgg5
  z5 := Tryz.sizeOf5
  v5 := Tryz.zeroValue5
  t9 := Tryz.underlying9
  a9 := Tryz.isAgg9
  z9 := Tryz.sizeOf9
  v9 := Tryz.zeroValue9
  t20 := Tryz.underlying20
  a20 := Tryz.isAgg20
  z20 := Tryz.sizeOf20
  v20 := Tryz.zeroValue20
  t37 := Tryz.underlying22
  a37 := Tryz.isAgg22
  z37 := Tryz.sizeOf22
  v37 := Tryz.zeroValue22
  t70 := Tryz.underlying138
  a70 := Tryz.isAgg138
  z70 := Tryz.sizeOf138
  v70 := Tryz.zeroValue138
  t72 := Tryz.underlying140
  a72 := Tryz.isAgg140
  z72 := Tryz.sizeOf140
  v72 := Tryz.zeroValue140
  t75 := Tryz.underlying142
  a75 := Tryz.isAgg142
  z75 := Tryz.sizeOf142
  v75 := Tryz.zeroValue142
  t164 := Tryz.underlying165
  a164 := Tryz.isAgg165
  z164 := Tryz.sizeOf165
  v164 := Tryz.zeroValue165 }
theorem extra167 : Go.Proofs.Builder.Extra Tryz.prog ren167 := {
  sizeBuilder := by kernel_rfl
  liesBuilder := by kernel_rfl
  t5 := Tryz.underlying5
  a5 := Tryz.isAgg5
  z5 := Tryz.sizeOf5
  v5 := Tryz.zeroValue5
  infoByte := by kernel_rfl
  cellsByte := by kernel_rfl
  sizeByte := by kernel_rfl
  neB5 := by decide }
theorem writeByte_any (B b : Nat) (bs : List Value) (c : Int) (w : World) (h : Lib.IsBuilder 140 5 B b bs w) (hlen : bs.length + 1 ≤ 140737488355328) (hBw : B ≤ w.heap.size) :
    Calls Tryz.prog 100 #[.pointer (some ⟨b, 0, none⟩), .int .u8 c] w fun e w' => e = .returned .nilIface ∧ (Lib.BuilderAt 140 5 B b (.pointer (some ⟨b, 0, none⟩)) (bs ++ [.int .u8 c]) w' ∧ Below B w w') :=
  Any.Builder_WriteByte lays167 extra167 B b bs c w h hlen hBw

/-- bytealg's variable holds some number. -/
def Glob (w : World) : Prop := ∃ m, w.cell? ⟨0, 0, none⟩ = some (.int .i64 m)
theorem Glob.next {w w' : World} (h : Glob w) (hb : Below w.heap.size w w') : Glob w' := by obtain ⟨m, hm⟩ := h; exact ⟨m, Below.keeps hb hm⟩

theorem index_where (t : B) (ht : t ≠ []) : ∀ s : B, Lib.index s t = if whereL t s < s.length then (whereL t s : Int) else -1
  | [] => by cases t with | nil => exact absurd rfl ht | cons a l => rfl
  | c :: r => by
    have ih := index_where t ht r
    have hle := whereL_le t r
    unfold Lib.index whereL
    by_cases hp : t.isPrefixOf (c :: r) = true
    · simp [hp]
    · simp only [hp, if_false, Bool.false_eq_true]
      rw [ih]
      by_cases hl : whereL t r < r.length
      · simp only [hl, if_true]
        rw [if_neg (by simp), if_pos (by simp; omega)]
        rfl
      · rw [if_neg hl]
        rw [if_pos (by simp), if_neg (by simp; omega)]
theorem splitB_cut : ∀ (n : Nat) (s : ByteArray), s.size = n → (Lib.splitB ⟨#[13, 10]⟩ 0 (Lib.countB s ⟨#[13, 10]⟩) s).map ByteArray.toList = cutL s.toList := by
  intro n
  induction n using Nat.strongRecOn with
  | _ n ih =>
    intro s hs
    have hi : Lib.indexB s ⟨#[13, 10]⟩ = if whereL [13, 10] s.toList < s.toList.length then (whereL [13, 10] s.toList : Int) else -1 := by
      have := index_where [13, 10] (by simp) s.toList
      rw [← this, toL_eq]
    by_cases hl : whereL [13, 10] s.toList < s.toList.length
    · rw [if_pos hl] at hi
      have hroom := whereL_room hl
      rw [len_toL] at hroom
      have hroom' : whereL [13, 10] s.toList + 2 ≤ s.size := hroom
      rw [Lib.countB_hit s ⟨#[13, 10]⟩ _ (by decide) hi, Nat.add_comm, Lib.splitB_hit _ _ _ _ _ hi, List.map_cons, cutL_yes hl]
      have hsz : (⟨#[13, 10]⟩ : ByteArray).size = 2 := rfl
      rw [hsz]
      have h := ih (s.extract (whereL [13, 10] s.toList + 2) s.size).size (by rw [ByteArray.size_extract]; omega) _ rfl
      rw [h, toL_from, Nat.add_zero, toL_to]
    · rw [if_neg hl] at hi
      rw [Lib.splitB_miss _ _ _ _ hi, cutL_no hl]; rfl
theorem strs_splitB (s : ByteArray) : (Lib.splitB ⟨#[13, 10]⟩ 0 (Lib.countB s ⟨#[13, 10]⟩) s).map Value.string = strs (cutL s.toList) := by
  rw [← splitB_cut _ s rfl]; unfold strs; rw [List.map_map]; apply List.map_congr_left; intro x _; simp [ofL_toL]
theorem split_any (s : ByteArray) (hs : s.size ≤ 1048576) (w : World) (hg : Glob w) :
    Calls Tryz.prog 87 #[.string s, .string ⟨#[13, 10]⟩] w fun e w' => ∃ v, e = .returned v ∧ w'.ownsRow w.heap.size 9 1 v (cutL s.toList).length (strs (cutL s.toList)) ∧ Below w.heap.size w w' := by
  obtain ⟨m, hm⟩ := hg
  refine (Tryz.strings_Split s ⟨#[13, 10]⟩ m w (by omega) hm (by decide)).mono ?_
  rintro e w' ⟨rfl, rfl⟩
  have hlen : (cutL s.toList).length = Lib.countB s ⟨#[13, 10]⟩ + 1 := by
    have h1 := Lib.splitB_all ⟨#[13, 10]⟩ (by decide) 0 _ s rfl
    have h2 := congrArg List.length (splitB_cut _ s rfl)
    rw [List.length_map] at h2; omega
  have hle := Lib.countB_le ⟨#[13, 10]⟩ (by decide) s.size s (Nat.le_refl _)
  refine ⟨_, rfl, ?_, (Below.refl _ _).alloc (Nat.le_refl _) _⟩
  rw [strs_splitB, hlen]
  have h := World.ownsRow_lit (base := w.heap.size) (e := 9) (size := 1) w (strs (cutL s.toList)).toArray (Lib.countB s ⟨#[13, 10]⟩ + 1) (Nat.le_refl _) (by unfold maxLen; omega) (by simp [strs_len, hlen])
  simpa using h

/-- 'strings.Cut' at a blank. -/
theorem cutB_any (s : ByteArray) (hs : s.size ≤ 1048576) (w : World) (hg : Glob w) :
    Calls Tryz.prog 85 #[.string s, .string ⟨#[32]⟩] w fun e w' => e = .returned (.tuple #[.string (ofL (s.toList.take (whereL [32] s.toList))), .string (ofL (s.toList.drop (whereL [32] s.toList + 1))), .bool (decide (whereL [32] s.toList < s.toList.length))]) ∧ ∃ n, w' = w.drewN n := by
  obtain ⟨m, hm⟩ := hg
  refine (Tryz.strings_Cut s ⟨#[32]⟩ m w (by omega) hm).mono ?_
  rintro e w' ⟨rfl, hn⟩
  refine ⟨?_, hn⟩
  have hd : (⟨#[32]⟩ : ByteArray).data.toList = [32] := rfl
  have hx := index_where [32] (by simp) s.toList
  rw [hd, ← toL_eq]
  unfold Lib.cut
  by_cases hl : whereL [32] s.toList < s.toList.length
  · rw [if_pos hl] at hx
    rw [hx, if_pos (by omega), decide_eq_true hl]
    simp [ofL]
  · rw [if_neg hl] at hx
    have hle := whereL_le [32] s.toList
    rw [hx, if_neg (by omega), decide_eq_false hl, List.take_of_length_le (by omega), List.drop_of_length_le (by omega)]
    rfl
/-- 'strings.IndexByte': the place, or -1. -/
theorem indexByte_where (c : UInt8) : ∀ s : B, Lib.indexByte s c = if whereL [c] s < s.length then (whereL [c] s : Int) else -1
  | [] => rfl
  | d :: r => by
    have ih := indexByte_where c r
    unfold Lib.indexByte whereL
    by_cases h : d = c
    · subst h; simp [List.isPrefixOf]
    · have h1 : (d == c) = false := by simpa using h
      have h2 : ([c].isPrefixOf (d :: r)) = false := by simp [List.isPrefixOf]; exact fun e => h e.symm
      rw [h1, h2, ih]
      by_cases hl : whereL [c] r < r.length
      · simp only [hl, if_true, Bool.false_eq_true, if_false]
        rw [if_neg (by simp), if_pos (by simp; omega)]; rfl
      · simp only [hl, Bool.false_eq_true, if_false]
        rw [if_pos (by simp), if_neg (by simp; omega)]
theorem ibyte_any (c : UInt8) (s : ByteArray) (w : World) :
    Calls Tryz.prog 90 #[.string s, .int .u8 c.toNat] w fun e w' => e = .returned (.int .i64 (if whereL [c] s.toList < s.size then (whereL [c] s.toList : Int) else -1)) ∧ w = w' := by
  refine (Tryz.strings_IndexByte s c.toNat w).mono ?_
  rintro e w' ⟨rfl, rfl⟩
  refine ⟨?_, rfl⟩
  rw [← toL_eq, indexByte_where, len_toL]
  simp
end Go.Proofs.YtmhgnaemafohfaaGreatDoor
