/- The library's functions that the program calls: what each answers, in these texts' words. Conditions: the texts are short; bytealg's variable holds some number. A sharp frame (what a call may write), and WriteByte with it. Conditions: none. The program's lower and tally (httpd). Conditions: the texts are short. -/
import Derived.Test.YtgdelmkgdfhdpaaGreatDoorShelf
import Derived.Test.YtgdelmkgdfhdpaaGreatDoorRef
import Derived.Shelf.Strings.BuilderX
import Derived.Shelf.Strings.BuilderK
import Derived.Lib.CountLaws
import Derived.Lib.SplitLaws
import Derived.Lib.CutLaws
import Derived.Deep.Onto
import Derived.Deep.Heap
namespace Go.Proofs.YtgdelmkgdfhdpaaGreatDoor
open Go.RowKit
set_option linter.unusedVariables false
set_option linter.unusedSimpArgs false
set_option maxRecDepth 100000

def ren167 : Go.Shelf.Ren := ⟨fun | 167 => 61 | 240 => 81 | 276 => 102 | n => n,
  fun | 0 => 0 | 4 => 4 | 5 => 5 | 9 => 9 | 20 => 20 | 37 => 23 | 70 => 89 | 72 => 91 | 75 => 93 | 80 => 95 | 164 => 123 | n => n, fun n => n⟩
theorem lays167 : Go.Proofs.Lays.n167 Tryz.prog ren167 := {
  mixed := by kernel_rfl
  f167 := Tryz.func61.trans (congrArg some (by kernel_rfl))
  f240 := Tryz.func81.trans (congrArg some (by kernel_rfl))
  f276 := Tryz.func102.trans (congrArg some (by kernel_rfl))
  t0 := Tryz.underlying0
  a0 := Tryz.isAgg0
  z0 := Tryz.sizeOf0
  v0 := Tryz.zeroValue0
  t4 := Tryz.underlying4
  a4 := Tryz.isAgg4
  z4 := Tryz.sizeOf4
  v4 := Tryz.zeroValue4
  t5 := Tryz.underlying5
  a5 := Tryz.isAgg5
  z5 := Tryz.sizeOf5
  v5 := Tryz.zeroValue5
  t9 := Tryz.underlying9
  a9 := Tryz.isAgg9
  z9 := Tryz.sizeOf9
  v9 := Tryz.zeroValue9
  t20 := Tryz.underlying20
  a20 := Tryz.isAgg20
  z20 := Tryz.sizeOf20
  v20 := Tryz.zeroValue20
  t37 := Tryz.underlying23
  a37 := Tryz.isAgg23
  z37 := Tryz.sizeOf23
  v37 := Tryz.zeroValue23
  t70 := Tryz.underlying89
  a70 := Tryz.isAgg89
  z70 := Tryz.sizeOf89
  v70 := Tryz.zeroValue89
  t72 := Tryz.underlying91
  a72 := Tryz.isAgg91
  z72 := Tryz.sizeOf91
  v72 := Tryz.zeroValue91
  t75 := Tryz.underlying93
  a75 := Tryz.isAgg93
  z75 := Tryz.sizeOf93
  v75 := Tryz.zeroValue93
  t164 := Tryz.underlying123
  a164 := Tryz.isAgg123
  z164 := Tryz.sizeOf123
  v164 := Tryz.zeroValue123 }
theorem extra167 : Go.Proofs.Builder.Extra Tryz.prog ren167 := {
  sizeBuilder := by kernel_rfl
  liesBuilder := by kernel_rfl
  t5 := Tryz.underlying5
  a5 := Tryz.isAgg5
  z5 := Tryz.sizeOf5
  v5 := Tryz.zeroValue5
  infoByte := by kernel_rfl
  cellsByte := by kernel_rfl
  sizeByte := by kernel_rfl
  neB5 := by decide }
theorem writeByte_any (B b : Nat) (bs : List Value) (c : Int) (w : World) (h : Lib.IsBuilder 91 5 B b bs w) (hlen : bs.length + 1 ≤ 140737488355328) (hBw : B ≤ w.heap.size) :
    Calls Tryz.prog 61 #[.pointer (some ⟨b, 0, none⟩), .int .u8 c] w fun e w' => e = .returned .nilIface ∧ (Lib.BuilderAt 91 5 B b (.pointer (some ⟨b, 0, none⟩)) (bs ++ [.int .u8 c]) w' ∧ Below B w w') :=
  Any.Builder_WriteByte lays167 extra167 B b bs c w h hlen hBw

/-- bytealg's variable holds some number. -/
def Glob (w : World) : Prop := ∃ m, w.cell? ⟨0, 0, none⟩ = some (.int .i64 m)
theorem Glob.next {w w' : World} (h : Glob w) (hb : Below w.heap.size w w') : Glob w' := by obtain ⟨m, hm⟩ := h; exact ⟨m, Below.keeps hb hm⟩

theorem index_where (t : B) (ht : t ≠ []) : ∀ s : B, Lib.index s t = if whereL t s < s.length then (whereL t s : Int) else -1
  | [] => by cases t with | nil => exact absurd rfl ht | cons a l => rfl
  | c :: r => by
    have ih := index_where t ht r
    have hle := whereL_le t r
    unfold Lib.index whereL
    by_cases hp : t.isPrefixOf (c :: r) = true
    · simp [hp]
    · simp only [hp, if_false, Bool.false_eq_true]
      rw [ih]
      by_cases hl : whereL t r < r.length
      · simp only [hl, if_true]
        rw [if_neg (by simp), if_pos (by simp; omega)]
        rfl
      · rw [if_neg hl]
        rw [if_pos (by simp), if_neg (by simp; omega)]
theorem splitB_cut : ∀ (n : Nat) (s : ByteArray), s.size = n → (Lib.splitB ⟨#[13, 10]⟩ 0 (Lib.countB s ⟨#[13, 10]⟩) s).map ByteArray.toList = cutL s.toList := by
  intro n
  induction n using Nat.strongRecOn with
  | _ n ih =>
    intro s hs
    have hi : Lib.indexB s ⟨#[13, 10]⟩ = if whereL [13, 10] s.toList < s.toList.length then (whereL [13, 10] s.toList : Int) else -1 := by
      have := index_where [13, 10] (by simp) s.toList
      rw [← this, toL_eq]
    by_cases hl : whereL [13, 10] s.toList < s.toList.length
    · rw [if_pos hl] at hi
      have hroom := whereL_room hl
      rw [len_toL] at hroom
      have hroom' : whereL [13, 10] s.toList + 2 ≤ s.size := hroom
      rw [Lib.countB_hit s ⟨#[13, 10]⟩ _ (by decide) hi, Nat.add_comm, Lib.splitB_hit _ _ _ _ _ hi, List.map_cons, cutL_yes hl]
      have hsz : (⟨#[13, 10]⟩ : ByteArray).size = 2 := rfl
      rw [hsz]
      have h := ih (s.extract (whereL [13, 10] s.toList + 2) s.size).size (by rw [ByteArray.size_extract]; omega) _ rfl
      rw [h, toL_from, Nat.add_zero, toL_to]
    · rw [if_neg hl] at hi
      rw [Lib.splitB_miss _ _ _ _ hi, cutL_no hl]; rfl
theorem strs_splitB (s : ByteArray) : (Lib.splitB ⟨#[13, 10]⟩ 0 (Lib.countB s ⟨#[13, 10]⟩) s).map Value.string = strs (cutL s.toList) := by
  rw [← splitB_cut _ s rfl]; unfold strs; rw [List.map_map]; apply List.map_congr_left; intro x _; simp [ofL_toL]
theorem split_any (s : ByteArray) (hs : s.size ≤ 1048576) (w : World) (hg : Glob w) :
    Calls Tryz.prog 54 #[.string s, .string ⟨#[13, 10]⟩] w fun e w' => ∃ v, e = .returned v ∧ w'.ownsRow w.heap.size 9 1 v (cutL s.toList).length (strs (cutL s.toList)) ∧ Below w.heap.size w w' := by
  obtain ⟨m, hm⟩ := hg
  refine (Tryz.strings_Split s ⟨#[13, 10]⟩ m w (by omega) hm (by decide)).mono ?_
  rintro e w' ⟨rfl, rfl⟩
  have hlen : (cutL s.toList).length = Lib.countB s ⟨#[13, 10]⟩ + 1 := by
    have h1 := Lib.splitB_all ⟨#[13, 10]⟩ (by decide) 0 _ s rfl
    have h2 := congrArg List.length (splitB_cut _ s rfl)
    rw [List.length_map] at h2; omega
  have hle := Lib.countB_le ⟨#[13, 10]⟩ (by decide) s.size s (Nat.le_refl _)
  refine ⟨_, rfl, ?_, (Below.refl _ _).alloc (Nat.le_refl _) _⟩
  rw [strs_splitB, hlen]
  have h := World.ownsRow_lit (base := w.heap.size) (e := 9) (size := 1) w (strs (cutL s.toList)).toArray (Lib.countB s ⟨#[13, 10]⟩ + 1) (Nat.le_refl _) (by unfold maxLen; omega) (by simp [strs_len, hlen])
  simpa using h

/-- 'strings.Cut' at a blank. -/
theorem cutB_any (s : ByteArray) (hs : s.size ≤ 1048576) (w : World) (hg : Glob w) :
    Calls Tryz.prog 52 #[.string s, .string ⟨#[32]⟩] w fun e w' => e = .returned (.tuple #[.string (ofL (s.toList.take (whereL [32] s.toList))), .string (ofL (s.toList.drop (whereL [32] s.toList + 1))), .bool (decide (whereL [32] s.toList < s.toList.length))]) ∧ ∃ n, w' = w.drewN n := by
  obtain ⟨m, hm⟩ := hg
  refine (Tryz.strings_Cut s ⟨#[32]⟩ m w (by omega) hm).mono ?_
  rintro e w' ⟨rfl, hn⟩
  refine ⟨?_, hn⟩
  have hd : (⟨#[32]⟩ : ByteArray).data.toList = [32] := rfl
  have hx := index_where [32] (by simp) s.toList
  rw [hd, ← toL_eq]
  unfold Lib.cut
  by_cases hl : whereL [32] s.toList < s.toList.length
  · rw [if_pos hl] at hx
    rw [hx, if_pos (by omega), decide_eq_true hl]
    simp [ofL]
  · rw [if_neg hl] at hx
    have hle := whereL_le [32] s.toList
    rw [hx, if_neg (by omega), decide_eq_false hl, List.take_of_length_le (by omega), List.drop_of_length_le (by omega)]
    rfl
/-- 'strings.IndexByte': the place, or -1. -/
theorem indexByte_where (c : UInt8) : ∀ s : B, Lib.indexByte s c = if whereL [c] s < s.length then (whereL [c] s : Int) else -1
  | [] => rfl
  | d :: r => by
    have ih := indexByte_where c r
    unfold Lib.indexByte whereL
    by_cases h : d = c
    · subst h; simp [List.isPrefixOf]
    · have h1 : (d == c) = false := by simpa using h
      have h2 : ([c].isPrefixOf (d :: r)) = false := by simp [List.isPrefixOf]; exact fun e => h e.symm
      rw [h1, h2, ih]
      by_cases hl : whereL [c] r < r.length
      · simp only [hl, if_true, Bool.false_eq_true, if_false]
        rw [if_neg (by simp), if_pos (by simp; omega)]; rfl
      · simp only [hl, Bool.false_eq_true, if_false]
        rw [if_pos (by simp), if_neg (by simp; omega)]
theorem ibyte_any (c : UInt8) (s : ByteArray) (w : World) :
    Calls Tryz.prog 74 #[.string s, .int .u8 c.toNat] w fun e w' => e = .returned (.int .i64 (if whereL [c] s.toList < s.size then (whereL [c] s.toList : Int) else -1)) ∧ w = w' := by
  refine (Tryz.strings_IndexByte s c.toNat w).mono ?_
  rintro e w' ⟨rfl, rfl⟩
  refine ⟨?_, rfl⟩
  rw [← toL_eq, indexByte_where, len_toL]
  simp
end Go.Proofs.YtgdelmkgdfhdpaaGreatDoor
namespace Go.Proofs.YtgdelmkgdfhdpaaGreatDoor
open Go.RowKit
set_option linter.unusedVariables false
set_option linter.unusedSimpArgs false
set_option maxRecDepth 100000

/-- Only blocks of F are written, or new ones. -/
structure Touch (F : Nat → Prop) (w w' : World) : Prop where
  os : w'.os = w.os
  tape : w'.tape = w.tape
  output : w'.output = w.output
  size : w.heap.size ≤ w'.heap.size
  block : ∀ k, k < w.heap.size → ¬ F k → w'.heap[k]? = w.heap[k]?

theorem Touch.refl (F : Nat → Prop) (w : World) : Touch F w w := ⟨rfl, rfl, rfl, Nat.le_refl _, fun _ _ _ => rfl⟩
theorem Touch.trans {F : Nat → Prop} {a b c : World} (h : Touch F a b) (k : Touch F b c) : Touch F a c :=
  ⟨k.os.trans h.os, k.tape.trans h.tape, k.output.trans h.output, Nat.le_trans h.size k.size, fun i hi hf => (k.block i (Nat.lt_of_lt_of_le hi h.size) hf).trans (h.block i hi hf)⟩
theorem Touch.mono {F G : Nat → Prop} {a b : World} (h : Touch F a b) (hg : ∀ k, k < a.heap.size → F k → G k) : Touch G a b :=
  ⟨h.os, h.tape, h.output, h.size, fun i hi hf => h.block i hi (fun k => hf (hg i hi k))⟩
theorem Touch.of_below {F : Nat → Prop} {a b : World} (h : Below a.heap.size a b) : Touch F a b := ⟨h.os, h.tape, h.output, h.size, fun i hi _ => h.block i hi⟩
theorem Touch.below {F : Nat → Prop} {B : Nat} {a b : World} (h : Touch F a b) (hB : ∀ k, k < B → ¬ F k) (hs : B ≤ a.heap.size) : Below B a b :=
  ⟨h.os, h.tape, h.output, h.size, fun k hk => h.block k (Nat.lt_of_lt_of_le hk hs) (hB k hk)⟩
theorem Touch.next {F : Nat → Prop} {a b c : World} (h : Touch F a b) (k : Below b.heap.size b c) : Touch F a c := h.trans (.of_below k)
theorem Touch.setCell {F : Nat → Prop} {a w : World} (h : Touch F a w) {p : Addr} (hp : F p.block) (u : Value) : Touch F a (w.setCell p u) := by
  refine h.trans ?_
  have hb := (Below.refl p.block w).setCell (p := p) (Nat.le_refl _) u
  refine ⟨hb.os, hb.tape, hb.output, hb.size, fun k hk hf => ?_⟩
  have hne : k ≠ p.block := fun e => hf (e ▸ hp)
  exact Go.Deep.blk_setCell_other w p u k hne
theorem Touch.grown {F : Nat → Prop} {a w w' : World} {row : Option Nat} (h : Touch F a w) (hg : w.grownBy w' row) (hr : ∀ k, row = some k → F k) : Touch F a w' :=
  h.trans ⟨hg.os, hg.tape, hg.output, hg.size, fun k hk hf => hg.block k hk (fun e => hf (hr k e.symm))⟩
theorem Touch.cell {F : Nat → Prop} {a b : World} (h : Touch F a b) {p : Addr} (hp : p.block < a.heap.size) (hf : ¬ F p.block) : b.cell? p = a.cell? p := World.cell?_of_block (h.block _ hp hf)
theorem own_touch {F : Nat → Prop} {w w' : World} {base : Nat} {e : TypeId} {size : Nat} {v : Value} {n : Nat} {xs : List Value} (h : w.ownsRow base e size v n xs) (ht : Touch F w w')
    (hf : ∀ k, v.ownBlock = some k → ¬ F k) : w'.ownsRow base e size v n xs := by
  rcases h.2 with ⟨rfl, rfl⟩ | ⟨g, cap, cur, rfl, hb, hg, hc, hm, hs, htk⟩
  · exact ⟨h.1, .inl ⟨rfl, rfl⟩⟩
  · refine ⟨h.1, .inr ⟨g, cap, cur, rfl, hb, ?_, hc, hm, hs, htk⟩⟩
    rw [ht.block g (by exact (Array.getElem?_eq_some_iff.1 hg).1) (hf g rfl)]; exact hg
theorem rd_touch {F : Nat → Prop} {w w' : World} {size : Nat} {v : Value} {n : Nat} {cs : List Value} (h : Rd w size v n cs) (ht : Touch F w w')
    (hf : ∀ a n c, v = .slice (some a) n c → ¬ F a.block) : Rd w' size v n cs := by
  obtain ⟨h1, A, c, rfl, h3, h4, h5, h6⟩ := h
  refine ⟨h1, A, c, rfl, h3, h4, h5, fun a ha => ⟨(h6 a ha).1, fun j u hj => ?_⟩⟩
  subst ha
  have hc := (h6 a rfl).2 j u hj
  rw [ht.cell (p := ⟨a.block, a.off + j, none⟩) (lt_of_cell hc) (hf a n c rfl)]; exact hc

/-- A builder: its block, what it holds, where its row may lie. -/
def Bld (w : World) (b B : Nat) (l : List Value) : Prop :=
  ∃ p v, (p = .pointer none ∨ p = .pointer (some ⟨b, 0, none⟩)) ∧ w.heap[b]? = some (.cells #[p, v] 91 (0, 0)) ∧ w.ownsRow B 5 1 v l.length l
theorem Bld.is {w : World} {b B B0 : Nat} {l : List Value} (h : Bld w b B l) (h0 : B0 ≤ b) (hB : b < B) : Lib.IsBuilder 91 5 B0 b l w := by
  obtain ⟨p, v, hp, hb, hown⟩ := h
  have hat : Lib.BuilderAt 91 5 B0 b p l w := ⟨h0, v, hb, hown.mono (by omega), fun e => by have := (hown.lt _ e).1; omega⟩
  rcases hp with rfl | rfl
  · exact .inl hat
  · exact .inr hat
theorem Bld.new (w : World) (B : Nat) : Bld (w.alloc (.cells #[.pointer none, .slice none 0 0] 91)) w.heap.size B [] :=
  ⟨_, _, .inl rfl, heap_alloc_new w _, World.ownsRow_nil _ _ _ _⟩
theorem Bld.below {w w' : World} {b B : Nat} {l : List Value} (h : Bld w b B l) (hb : Below w.heap.size w w') : Bld w' b B l := by
  obtain ⟨p, v, hp, hk, hown⟩ := h
  exact ⟨p, v, hp, by rw [hb.block b (Array.getElem?_eq_some_iff.1 hk).1]; exact hk, own_below hown hb⟩

theorem heap_set_own {w : World} {b : Nat} {cs : Array Value} {t : TypeId} {fz : Nat × Nat} (h : w.heap[b]? = some (.cells cs t fz)) (i : Nat) (u : Value) :
    (w.setCell ⟨b, i, none⟩ u).heap[b]? = some (.cells (cs.set! i u) t fz) := by
  simp only [World.setCell, Array.getElem?_modify, h, if_true, Option.map_some]; rfl

set_option maxHeartbeats 2000000 in
theorem writeByte_sharp (b B : Nat) (l : List Value) (c : Int) (w : World) (h : Bld w b B l) (hB : b < B) (hl : l.length + 1 ≤ 140737488355328) (hBw : B ≤ w.heap.size) :
    Calls Tryz.prog 61 #[.pointer (some ⟨b, 0, none⟩), .int .u8 c] w fun e w' => e = .returned .nilIface ∧ Bld w' b B (l ++ [.int .u8 c]) ∧ Touch (fun k => k = b ∨ B ≤ k) w w' := by
  have hcc : Calls Tryz.prog 81 #[.pointer (some ⟨b, 0, none⟩)] w fun e w' => e = .returned (.tuple #[]) ∧ (∃ v, w'.heap[b]? = some (.cells #[.pointer (some ⟨b, 0, none⟩), v] 91 (0, 0)) ∧ w'.ownsRow B 5 1 v l.length l) ∧ Touch (fun k => k = b ∨ B ≤ k) w w' := by
    obtain ⟨p, v, hp, hb, hown⟩ := h
    rcases hp with rfl | rfl
    · refine (Any.Builder_copyCheck_fresh { lays167 with } extra167.toX72 b w (by rw [Lib.cell_of_heap hb]; rfl) (by simp [World.shape?, hb]; rfl) (Lib.frozen_of_heap hb 0)).mono ?_
      rintro e w' ⟨rfl, rfl⟩
      have ht := (Touch.refl (fun k => k = b ∨ B ≤ k) w).setCell (p := ⟨b, 0, none⟩) (.inl rfl) (.pointer (some ⟨b, 0, none⟩))
      refine ⟨rfl, ⟨v, by rw [heap_set_own hb]; rfl, ?_⟩, ht⟩
      exact own_touch hown ((Touch.refl (fun k => k = b) w).setCell (p := ⟨b, 0, none⟩) rfl _) fun k hk e => by have := (hown.lt _ hk).1; omega
    · refine (Any.Builder_copyCheck_used { lays167 with } extra167.toX72 b w (by rw [Lib.cell_of_heap hb]; rfl)).mono ?_
      rintro e w' ⟨rfl, rfl⟩
      exact ⟨rfl, ⟨v, hb, hown⟩, Touch.refl _ _⟩
  have Hcc := Lib.hid hcc
  clear hcc h
  obtain ⟨i0, hi, hz0, hz1, hz2⟩ := info_parts extra167.infoByte
  go_enter Tryz.func61, Tryz.ntmps61
  go_wp2_with (go_at_call 81; refine Hcc.out.mono ?_)
  rintro e w1 ⟨rfl, ⟨v, hbk, hown⟩, ht1⟩
  have c0 : w1.cell? ⟨b, 0, none⟩ = some (.pointer (some ⟨b, 0, none⟩)) := by rw [Lib.cell_of_heap hbk]; rfl
  have c1 : w1.cell? ⟨b, 1, none⟩ = some v := by rw [Lib.cell_of_heap hbk]; rfl
  have hsz1 := ht1.size
  have Hone : ∀ u ∈ [Value.int .u8 c], u.oneCell' = true := by intro u hu; simp at hu; subst hu; rfl
  go_wp2_with (at_builtin; refine wpList_push _ rfl _ _ 23 rfl B rowB _ _ _ rfl hown [.int .u8 c] w1.heap.size rfl rfl rfl Hone (by omega) (by omega) ?_)
  intro v' w2 hown' hgrow _ _
  have hlt : b < w1.heap.size := (Array.getElem?_eq_some_iff.1 hbk).1
  have hb2 : w2.heap[b]? = some (.cells #[.pointer (some ⟨b, 0, none⟩), v] 91 (0, 0)) := by
    rw [hgrow.block b (by simp; omega) (fun e => by have := (hown.lt b e.symm).1; omega), Lib.alloc_old w1 _ b hlt]
    exact hbk
  have d0 : w2.cell? ⟨b, 0, none⟩ = some (.pointer (some ⟨b, 0, none⟩)) := by rw [Lib.cell_of_heap hb2]; rfl
  have d1 : w2.cell? ⟨b, 1, none⟩ = some v := by rw [Lib.cell_of_heap hb2]; rfl
  have f1 : w2.frozen? ⟨b, 1, none⟩ = false := Lib.frozen_of_heap hb2 1
  obtain ⟨g, cap, rfl⟩ : ∃ g cap, v' = .slice (some ⟨g, 0, none⟩) (l.length + 1) cap := by
    rcases hown'.2 with ⟨_, h0⟩ | ⟨g, cap, cur, hv, _⟩
    · omega
    · exact ⟨g, cap, hv⟩
  go_wp2
  go_ret
  have hta := ((ht1.next ((Below.refl w1.heap.size w1).alloc (Nat.le_refl _) _)).grown hgrow (fun k hk => .inr (hown.lt k hk).1)).setCell (p := ⟨b, 1, none⟩) (.inl rfl) (.slice (some ⟨g, 0, none⟩) (l.length + 1) cap)
  refine ⟨rfl, ⟨_, _, .inr rfl, by rw [heap_set_own hb2]; rfl, ?_⟩, hta⟩
  rw [List.length_append]
  exact own_touch hown' ((Touch.refl (fun k => k = b) w2).setCell (p := ⟨b, 1, none⟩) rfl _) fun k hk e => by have := (hown'.lt _ hk).1; omega
end Go.Proofs.YtgdelmkgdfhdpaaGreatDoor
namespace Go.Proofs.YtgdelmkgdfhdpaaGreatDoor
open Go.RowKit
set_option linter.unusedVariables false
set_option linter.unusedSimpArgs false
set_option maxRecDepth 100000

theorem low_all : ∀ n, n < 256 → isB 2 (UInt8.ofNat n) = true → bits .or .u8 ((UInt8.ofNat n).toNat : Int) 32 = ((lowB (UInt8.ofNat n)).toNat : Int) := by decide +kernel
theorem low_or (c : UInt8) (h : isB 2 c = true) : bits .or .u8 (c.toNat : Int) 32 = ((lowB c).toNat : Int) := by
  have := low_all c.toNat c.toNat_lt; rw [UInt8.ofNat_toNat] at this; exact this h
theorem low_no (c : UInt8) (h : isB 2 c = false) : lowB c = c := by simp [lowB, h]
theorem lower_any (s : ByteArray) (hs : s.size ≤ 1048576) (w : World) :
    Calls Tryz.prog 40 #[.string s] w fun e w' => e = .returned (.string (ofL (lowL s.toList))) ∧ Below w.heap.size w w' := by
  have kb := fun wx => run_bytes_of_string (P := Tryz.prog) wx 9 23 5 s Tryz.underlying9 Tryz.underlying23 Tryz.underlying5
  have Hl := Lib.hid (len_toL s)
  go_enter Tryz.func40, Tryz.ntmps40
  go_wp2
  have hsz : (w.alloc (.cells #[.pointer none, .slice none 0 0] 91)).heap.size = w.heap.size + 1 := by simp
  have hbd := Bld.new w (w.heap.size + 2)
  have hb1 := (Below.refl w.heap.size w).alloc (Nat.le_refl _) (.cells #[.pointer none, .slice none 0 0] 91)
  generalize w.alloc (.cells #[.pointer none, .slice none 0 0] 91) = w1 at hsz hbd hb1 ⊢
  have hR := rd_bytes' (w := w1) (wc := w1) (s := s) (n := s.size) (e := 5) (fr := ((bytesRow s (grownCap w1 s.size 0 5)).size, (bytesRow s (grownCap w1 s.size 0 5)).size + 1)) rfl (by omega)
  have hb2 := ((Below.refl w1.heap.size w1).alloc (Nat.le_refl _) (.cells (bytesRow s (grownCap w1 s.size 0 5)) 5 ((bytesRow s (grownCap w1 s.size 0 5)).size, (bytesRow s (grownCap w1 s.size 0 5)).size + 1))).drew
  have hsz2 : (w1.alloc (.cells (bytesRow s (grownCap w1 s.size 0 5)) 5 ((bytesRow s (grownCap w1 s.size 0 5)).size, (bytesRow s (grownCap w1 s.size 0 5)).size + 1))).drew.heap.size = w.heap.size + 2 := by simp [World.drew, hsz]
  rw [hsz] at hR
  generalize (w1.alloc (.cells (bytesRow s (grownCap w1 s.size 0 5)) 5 ((bytesRow s (grownCap w1 s.size 0 5)).size, (bytesRow s (grownCap w1 s.size 0 5)).size + 1))).drew = w2 at hR hb2 hsz2 ⊢
  generalize grownCap w1 s.size 0 5 = cap at hR ⊢
  have hbd2 := hbd.below hb2
  have hb12 := hb1.next hb2
  have hne : w.heap.size + 1 < w2.heap.size := by omega
  clear hbd hb1 hb2 hsz
  go_loopw [5, 9] (fun o i wr => ∃ k : Nat, k ≤ s.size ∧ i = .int .i64 k ∧ Bld wr w.heap.size (w.heap.size + 2) (bytesV (lowL (s.toList.take k))) ∧ Touch (fun k => k = w.heap.size ∨ w.heap.size + 2 ≤ k) w2 wr) (fun _ i _ => s.size - (intOf i).toNat)
  case atStart => exact ⟨0, Nat.zero_le _, rfl, hbd2, Touch.refl _ _⟩
  case round =>
    obtain ⟨k, hk, rfl, hbd3, ht⟩ := hrel
    have Hbd := Lib.hid hbd3
    have hR3 := rd_touch hR ht (fun a n c e => by cases e; simp)
    clear hbd3
    by_cases hlt : k < s.size
    · have Ht := Lib.hid (take_eq s k hlt)
      have hle : (bytesV (lowL (s.toList.take k))).length + 1 ≤ 140737488355328 := by rw [bytesV_len]; simp [lowL]; omega
      obtain ⟨b', o, hA, hc⟩ := hR3.byteAt (get_eq s k hlt)
      cases hA
      rw [Nat.zero_add] at hc
      have hts := ht.size
      cases hp : isB 2 s[k]
      all_goals
        have Hp := Lib.hid hp
      · have hv := low_no _ hp
        clear hp
        go_wp2_with (first | (go_at_call 60; refine (capitalB s[k] _).mono ?_; rintro e w' ⟨rfl, rfl⟩; rw [Hp.out]) | (go_at_call 61; refine (writeByte_sharp w.heap.size (w.heap.size + 2) _ _ _ Hbd.out (by omega) hle (by omega)).mono ?_; rintro e w' ⟨rfl, hbd', ht'⟩))
        go_roundw
        case rel => exact ⟨k + 1, by omega, by go_num, by rw [Ht.out]; unfold lowL at *; rw [List.map_append, bytesV_append]; simpa [bytesV, hv] using hbd', ht.trans ht'⟩
        case measure => simp [intOf]; omega
      · have hv := low_or _ hp
        clear hp
        go_wp2_with (first | (go_at_call 60; refine (capitalB s[k] _).mono ?_; rintro e w' ⟨rfl, rfl⟩; rw [Hp.out]) | (go_at_call 61; refine (writeByte_sharp w.heap.size (w.heap.size + 2) _ _ _ Hbd.out (by omega) hle (by omega)).mono ?_; rintro e w' ⟨rfl, hbd', ht'⟩))
        go_roundw
        case rel => exact ⟨k + 1, by omega, by go_num, by rw [Ht.out]; unfold lowL at *; rw [List.map_append, bytesV_append]; simpa [bytesV, hv] using hbd', ht.trans ht'⟩
        case measure => simp [intOf]; omega
    · have hrest : s.toList.take k = s.toList := List.take_of_length_le (by rw [len_toL]; omega)
      rw [hrest] at Hbd
      go_wp2_with (go_at_call 62; refine (Tryz.Builder_String_any w.heap.size w.heap.size (lowL s.toList) _ (Hbd.out.is (Nat.le_refl _) (by omega)) (by have := ht.size; omega)).mono ?_; rintro e w' ⟨rfl, hb'⟩)
      go_ret
      refine ⟨rfl, (hb12.trans ?_).trans hb'⟩
      exact ht.below (fun j hj hf => by omega) (by omega)

/-- How many headers bear a name; the first one's value. -/
def firstL (l : List B) : B := l.headD []
theorem firstL_snoc (l : List B) (x : B) : firstL (l ++ [x]) = if l = [] then x else firstL l := by cases l <;> simp [firstL]
theorem tally_any (hs : List (B × B)) (v : Value) (nm : ByteArray) (w : World) (hR : Rd w 2 v hs.length (pairs hs)) (hn : hs.length ≤ 4096) :
    Calls Tryz.prog 98 #[v, .string nm] w fun e w' => e = .returned (.tuple #[.int .i64 (valuesL hs nm.toList).length, .string (ofL (firstL (valuesL hs nm.toList)))]) ∧ Below w.heap.size w w' := by
  have HR := Lib.hid hR
  obtain ⟨A, c, rfl⟩ := hR.shape
  clear hR
  go_enter Tryz.func98, Tryz.ntmps98
  go_wp2
  go_loopw [6, 7, 12] (fun o p i wr => ∃ k : Nat, k ≤ hs.length ∧ i = .int .i64 k ∧ o = .int .i64 (valuesL (hs.take k) nm.toList).length ∧ p = .string (ofL (firstL (valuesL (hs.take k) nm.toList))) ∧ Below w.heap.size w wr) (fun _ _ i _ => hs.length - (intOf i).toNat)
  case atStart => exact ⟨0, Nat.zero_le _, rfl, rfl, rfl, Below.refl _ _⟩
  case round =>
    obtain ⟨k, hk, rfl, rfl, rfl, hb⟩ := hrel
    by_cases hlt : k < hs.length
    · obtain ⟨h, hh⟩ : ∃ h, hs[k]? = some h := ⟨hs[k], List.getElem?_eq_getElem hlt⟩
      have Hh := Lib.hid (take_snoc' hh)
      obtain ⟨b, o, rfl, hc1, hc2⟩ := (HR.out.below hb).pairAt hh
      clear hh
      have hle := valuesL_le (hs.take k) nm.toList
      rw [List.length_take] at hle
      have hle' : (valuesL (hs.take k) nm.toList).length ≤ 4096 := by omega
      clear hle
      have Hs := Lib.hid (show valuesL (hs.take (k + 1)) nm.toList = _ from by rw [Hh.out, valuesL_snoc, ← toL_ofL h.1])
      generalize hvl : valuesL (hs.take k) nm.toList = vl at hle' Hs ⊢
      cases hp : ((ofL h.1).toList == nm.toList)
      · have Hp := Lib.hid hp
        go_wp2
        go_roundw
        case rel => exact ⟨k + 1, by omega, by go_num, by rw [Hs.out, Hp.out]; simp, by rw [Hs.out, Hp.out]; simp, hb.alloc hb.size _⟩
        case measure => simp [intOf]; omega
      · have Hp := Lib.hid hp
        by_cases h0 : vl.length = 0
        · have Hv := Lib.hid (List.eq_nil_of_length_eq_zero h0)
          have h1 : (((vl.length : Int) + 1) == 1) = true := by simp; omega
          go_wp2
          go_roundw
          case rel => exact ⟨k + 1, by omega, by go_num, by rw [Hs.out, Hp.out, Hv.out]; rfl, by rw [Hs.out, Hp.out, Hv.out]; simp [firstL], hb.alloc hb.size _⟩
          case measure => simp [intOf]; omega
        · have Hv := Lib.hid (show vl ≠ [] from fun e => h0 (by rw [e]; rfl))
          have h1 : (((vl.length : Int) + 1) == 1) = false := by simp; omega
          go_wp2
          go_roundw
          case rel => exact ⟨k + 1, by omega, by go_num, by rw [Hs.out, Hp.out]; simp, by rw [Hs.out, Hp.out, if_pos rfl, firstL_snoc, if_neg Hv.out], hb.alloc hb.size _⟩
          case measure => simp [intOf]; omega
    · go_wp2
      have hk' : k = hs.length := by omega
      subst hk'
      rw [List.take_length]
      refine bodyPost_ret (results_tmp2 rfl _ _ _) rfl ⟨rfl, hb⟩
end Go.Proofs.YtgdelmkgdfhdpaaGreatDoor
