/- The machine as it stands between two bytes (httpd); its plain states. Conditions: the body is short. -/
import Derived.Test.YtmhgnaemafohfaaGreatDoorMachC
namespace Go.Proofs.YtmhgnaemafohfaaGreatDoor
open Go.RowKit
set_option linter.unusedVariables false
set_option linter.unusedSimpArgs false
set_option maxRecDepth 100000

/-- What the machine waits for. -/
inductive St | heads | sizes | plain | chunk | endS | lineC | endC | lineE | endE
/-- A closure over a box that holds a function. -/
def Clo (w : World) (F : Nat → Prop) (nx : Value) (fn g : Nat) : Prop :=
  ∃ b, nx = .func (.func fn) #[] #[.pointer (some ⟨b, 0, none⟩)] ∧ F b ∧ w.heap[b]? = some (.cells #[.func (.func g) #[] #[]] 163 (0, 0))
def Nx (w : World) (F : Nat → Prop) (nx : Value) : St → Prop
  | .heads => nx = .func (.func 68) #[] #[]
  | .sizes => nx = .func (.func 113) #[] #[]
  | .plain => nx = .func (.func 114) #[] #[]
  | .chunk => nx = .func (.func 133) #[] #[]
  | .endS => Clo w F nx 154 132
  | .lineC => Clo w F nx 156 155
  | .endC => Clo w F nx 154 155
  | .lineE => Clo w F nx 156 135
  | .endE => Clo w F nx 154 135
structure Mc where
  st : St
  head : B
  m : B
  p : B
  h : List (B × B)
  b : B
  left : Nat
  many : Nat

/-- The machine but for what comes next and the head. -/
def MB (w : World) (bm : Nat) (F : Nat → Prop) (nx hv : Value) (x : Mc) : Prop :=
  (F bm ∧ ∀ k, F k → k < w.heap.size) ∧ ∃ Hv Bv, MC w bm nx hv (ofL x.m) (ofL x.p) Hv Bv x.left x.many ∧
    (w.ownsRow 0 72 2 Hv x.h.length (pairs x.h) ∧ ∀ k, Hv.ownBlock = some k → F k) ∧
    (w.ownsRow 0 5 1 Bv x.b.length (bytesV x.b) ∧ ∀ k, Bv.ownBlock = some k → F k) ∧ (x.b = [] → Bv = .slice none 0 0)
def MI (w : World) (bm : Nat) (F : Nat → Prop) (x : Mc) : Prop :=
  ∃ nx hv, MB w bm F nx hv x ∧ Nx w F nx x.st ∧ (x.st = .heads → (w.ownsRow 0 5 1 hv x.head.length (bytesV x.head) ∧ ∀ k, hv.ownBlock = some k → F k) ∧ x.h = [] ∧ x.b = [])
/-- What the blocks are that a step may add. -/
def Grow (F : Nat → Prop) (w w' : World) (k : Nat) : Prop := F k ∨ (w.heap.size ≤ k ∧ k < w'.heap.size)

theorem own_elem {w : World} {base : Nat} {e : TypeId} {size : Nat} {v : Value} {n : Nat} {xs : List Value} (h : w.ownsRow base e size v n xs) {k : Nat} (hk : v.ownBlock = some k) : ∃ cs, w.heap[k]? = some (.cells cs e (0, 0)) := by
  rcases h.2 with ⟨rfl, _⟩ | ⟨g, cap, cur, rfl, _, hg, _⟩
  · cases hk
  · cases hk; exact ⟨cur, hg⟩
theorem MC.not_own {w : World} {bm : Nat} {nx hv Hv Bv : Value} {m p : ByteArray} {l k : Int} (h : MC w bm nx hv m p Hv Bv l k) {base : Nat} {e : TypeId} {size : Nat} {v : Value} {n : Nat} {xs : List Value} (ho : w.ownsRow base e size v n xs)
    (he : e ≠ 88) : ∀ j, v.ownBlock = some j → j ≠ bm := by
  rintro j hj rfl
  obtain ⟨cs, hcs⟩ := own_elem ho hj
  unfold MC at h
  rw [h] at hcs
  simp only [Option.some.injEq, Obj.cells.injEq] at hcs
  exact he hcs.2.1.symm
theorem own_apart {w : World} {b1 b2 : Nat} {e1 e2 : TypeId} {s1 s2 : Nat} {v1 v2 : Value} {n1 n2 : Nat} {x1 x2 : List Value} (h1 : w.ownsRow b1 e1 s1 v1 n1 x1) (h2 : w.ownsRow b2 e2 s2 v2 n2 x2) (he : e1 ≠ e2) :
    ∀ j, v1.ownBlock = some j → v2.ownBlock ≠ some j := by
  intro j hj hj2
  obtain ⟨c1, hc1⟩ := own_elem h1 hj
  obtain ⟨c2, hc2⟩ := own_elem h2 hj2
  rw [hc1] at hc2
  simp only [Option.some.injEq, Obj.cells.injEq] at hc2
  exact he hc2.2.1

theorem grow_of {F : Nat → Prop} {w w' : World} (ht : Touch F w w') (hF : ∀ k, F k → k < w.heap.size) : ∀ k, Grow F w w' k → k < w'.heap.size := fun k h => h.elim (fun a => Nat.lt_of_lt_of_le (hF k a) ht.size) (·.2)
/-- How a step ends. -/
def StepOut (w : World) (bm : Nat) (F : Nat → Prop) (st : Nat) (x' : Mc) (w' : World) : Prop :=
  Touch F w w' ∧ (st = 1 → MI w' bm (Grow F w w') x') ∧ (st = 0 → ∃ nx hv y, MB w' bm (Grow F w w') nx hv y ∧ y.m = x'.m ∧ y.p = x'.p ∧ y.h = x'.h ∧ y.b = x'.b)
def plainStep (x : Mc) (c : UInt8) : Mc := { x with st := .plain, b := x.b ++ [c], left := x.left - 1 }
def plainSt (x : Mc) : Nat := if x.left = 1 then 0 else 1

/-- A byte more in the body, and one less to come. -/
theorem body_more {w w1 w2 : World} {bm : Nat} {F : Nat → Prop} {nx hv : Value} {x : Mc} {Hv Bv Bv' : Value} (hF : F bm ∧ ∀ k, F k → k < w.heap.size) (hM : MC w bm nx hv (ofL x.m) (ofL x.p) Hv Bv x.left x.many)
    (hH : w.ownsRow 0 72 2 Hv x.h.length (pairs x.h) ∧ ∀ k, Hv.ownBlock = some k → F k) (hB : w.ownsRow 0 5 1 Bv x.b.length (bytesV x.b) ∧ ∀ k, Bv.ownBlock = some k → F k)
    (c : UInt8) (hown1 : w1.ownsRow 0 5 1 Bv' (x.b.length + 1) (bytesV x.b ++ [.int .u8 c.toNat])) (ht1 : Touch (fun k => Bv.ownBlock = some k) w w1) (hl1 : Lies w Bv Bv') (hl : 1 ≤ x.left)
    (nx' : Value) (ht2 : Touch (fun j => j = bm) w1 w2) (hM2 : MC w2 bm nx' hv (ofL x.m) (ofL x.p) Hv Bv' ((x.left : Int) - 1) x.many) (st : St) :
    MB w2 bm (Grow F w w2) nx' hv { plainStep x c with st := st } := by
  have hM1 := hM.touch ht1 (fun e => hM.not_own hB.1 (by decide) bm e rfl)
  have ht : Touch F w w2 := (ht1.mono fun j _ h => hB.2 j h).trans (ht2.mono fun j _ h => h ▸ hF.1)
  have hs : w1.heap.size ≤ w2.heap.size := ht2.size
  refine ⟨⟨.inl hF.1, grow_of ht hF.2⟩, Hv, Bv', ?_, ⟨?_, fun k hk => .inl (hH.2 k hk)⟩, ⟨?_, fun k hk => ?_⟩, fun h => absurd h (by simp [plainStep])⟩
  · have : ((x.left : Int) - 1) = ((x.left - 1 : Nat) : Int) := by omega
    rw [this] at hM2; exact hM2
  · exact own_touch (own_touch hH.1 ht1 (fun k hk e => own_apart hH.1 hB.1 (by decide) k hk e)) ht2 (fun k hk e => hM.not_own hH.1 (by decide) k hk e)
  · have h := own_touch hown1 ht2 (fun k hk e => hM1.not_own hown1 (by decide) k hk e)
    show w2.ownsRow 0 5 1 Bv' (x.b ++ [c]).length (bytesV (x.b ++ [c]))
    rw [List.length_append, bytesV_append]; exact h
  · rcases hl1 k hk with h | h
    · exact .inl (hB.2 k h)
    · exact .inr ⟨h, Nat.lt_of_lt_of_le (hown1.lt k hk).2 hs⟩

theorem one_byte (c : UInt8) : ∀ u ∈ [Value.int .u8 c.toNat], u.oneCell' = true := by intro u hu; simp at hu; subst hu; rfl
theorem plain_any (bm : Nat) (F : Nat → Prop) (x : Mc) (c : UInt8) (w : World) (hI : MI w bm F x) (hst : x.st = .plain) (h1 : 1 ≤ x.left) (h2 : x.left ≤ 1048576) (hb : x.b.length ≤ 1048576) :
    Calls Tryz.prog 114 #[.pointer (some ⟨bm, 0, none⟩), .int .u8 c.toNat] w fun e w' => e = .returned (.int .i64 (plainSt x)) ∧ StepOut w bm F (plainSt x) (plainStep x c) w' := by
  obtain ⟨nx, hv, ⟨hF, Hv, Bv, hM, hH, hB, _⟩, hN, _⟩ := hI
  rename_i hzz _
  clear hzz
  have Hone := one_byte c
  have HB := Lib.hid hB
  obtain ⟨A, cp, hBv⟩ := (rd_of_own hB.1).shape
  have hne := hM.not_own hB.1 (by decide)
  have hH' := Lib.hid hH
  have HF := Lib.hid hF
  clear hH hB hF
  subst hBv
  have k5 := hM.c5
  by_cases hlast : x.left = 1
  all_goals
    have Hp : Hid (plainSt x = if x.left = 1 then 0 else 1) := rfl
    generalize plainSt x = st at Hp ⊢
    first | rw [if_pos hlast] at Hp | rw [if_neg hlast] at Hp
    have h3 : x.left ≤ 1 ∨ 2 ≤ x.left := by omega
    first | (replace h3 : x.left ≤ 1 := by omega) | (replace h3 : 2 ≤ x.left := by omega)
    clear hlast
    go_enter Tryz.func114, Tryz.ntmps114
    go_wp2_with (at_builtin; refine wpList_pushAt _ rfl _ _ 22 rfl rowB _ _ _ rfl HB.out.1 [.int .u8 c.toNat] w.heap.size rfl rfl rfl Hone (by omega) ?_)
    intro v' w1 hown1 ht1 hl1
    obtain ⟨A7, c7, rfl⟩ := (rd_of_own hown1).shape
    have hM1 := hM.touch ht1 (fun e => hne bm e rfl)
    have k5 := hM1.c5
    have f5 := hM1.fz 5
    have k6 := hM1.c6
    have f6 := hM1.fz 6
    have hMx := (hM1.set5 (.slice A7 (x.b.length + 1) c7)).set6 ((x.left : Int) - 1)
    have ht2 := ((Touch.refl (fun j => j = bm) w1).setCell (p := ⟨bm, 5, none⟩) rfl (.slice A7 (x.b.length + 1) c7)).setCell (p := ⟨bm, 6, none⟩) rfl (.int .i64 ((x.left : Int) - 1))
    have hMB := Lib.hid (body_more HF.out hM hH'.out HB.out c hown1 ht1 hl1 h1 nx ht2 hMx .plain)
    have HT := Lib.hid ((ht1.mono (G := F) fun j _ h => HB.out.2 j h).trans (ht2.mono fun j _ h => h ▸ HF.out.1))
    go_wp2
    go_ret
    exact ⟨ret_int (by rw [Hp.out]; rfl), HT.out, fun _ => ⟨nx, hv, hMB.out, (by rw [hst] at hN; exact hN), fun h => by cases h⟩, fun _ => ⟨nx, hv, _, hMB.out, rfl, rfl, rfl, rfl⟩⟩

/-- The closures. -/
theorem line_clo (g : Nat) (w : World) : Calls Tryz.prog 134 #[.func (.func g) #[] #[]] w fun e w' => e = .returned (.func (.func 156) #[] #[.pointer (some ⟨w.heap.size, 0, none⟩)]) ∧ w' = w.alloc (.cells #[.func (.func g) #[] #[]] 163) := by
  go_enter Tryz.func134, Tryz.ntmps134
  go_wp2
  go_ret
  exact ⟨rfl, rfl⟩
theorem end_clo (g : Nat) (w : World) : Calls Tryz.prog 131 #[.func (.func g) #[] #[]] w fun e w' => e = .returned (.func (.func 154) #[] #[.pointer (some ⟨w.heap.size, 0, none⟩)]) ∧ w' = w.alloc (.cells #[.func (.func g) #[] #[]] 163) := by
  go_enter Tryz.func131, Tryz.ntmps131
  go_wp2
  go_ret
  exact ⟨rfl, rfl⟩
theorem clo_new {F : Nat → Prop} {w w1 : World} {bm fn g : Nat} (u : Value) (hF : ∀ k, F k → k < w.heap.size) (hs : w.heap.size ≤ w1.heap.size) (hb : bm < w1.heap.size) :
    Clo ((w1.alloc (.cells #[.func (.func g) #[] #[]] 163)).setCell ⟨bm, 0, none⟩ u) (Grow F w ((w1.alloc (.cells #[.func (.func g) #[] #[]] 163)).setCell ⟨bm, 0, none⟩ u))
      (.func (.func fn) #[] #[.pointer (some ⟨w1.heap.size, 0, none⟩)]) fn g := by
  refine ⟨w1.heap.size, rfl, .inr ⟨hs, by simp [World.setCell]⟩, ?_⟩
  rw [Go.Deep.blk_setCell_other _ _ _ _ (by simp; omega)]
  exact heap_alloc_new w1 _
def chunkStep (x : Mc) (c : UInt8) : Mc := { plainStep x c with st := if x.left = 1 then .lineC else .chunk }
theorem chunk_any (bm : Nat) (F : Nat → Prop) (x : Mc) (c : UInt8) (w : World) (hI : MI w bm F x) (hst : x.st = .chunk) (h1 : 1 ≤ x.left) (h2 : x.left ≤ 1048576) (hb : x.b.length ≤ 1048576) :
    Calls Tryz.prog 133 #[.pointer (some ⟨bm, 0, none⟩), .int .u8 c.toNat] w fun e w' => e = .returned (.int .i64 1) ∧ StepOut w bm F 1 (chunkStep x c) w' := by
  obtain ⟨nx, hv, ⟨hF, Hv, Bv, hM, hH, hB, _⟩, hN, _⟩ := hI
  rename_i hzz _
  clear hzz
  have Hone := one_byte c
  have HB := Lib.hid hB
  obtain ⟨A, cp, hBv⟩ := (rd_of_own hB.1).shape
  have hne := hM.not_own hB.1 (by decide)
  have hH' := Lib.hid hH
  have HF := Lib.hid hF
  clear hH hB hF
  subst hBv
  have k5 := hM.c5
  have Hc : Hid (chunkStep x c = { plainStep x c with st := if x.left = 1 then .lineC else .chunk }) := rfl
  generalize chunkStep x c = cx at Hc ⊢
  by_cases hlast : x.left = 1
  · rw [if_pos hlast] at Hc
    have h3 : (((x.left : Int) - 1) == 0) = true := by simp; omega
    have h4 : (x.left : Int) - 1 = 0 := by omega
    have H4 := Lib.hid h4
    clear hlast h4
    go_enter Tryz.func133, Tryz.ntmps133
    go_wp2_with (at_builtin; refine wpList_pushAt _ rfl _ _ 22 rfl rowB _ _ _ rfl HB.out.1 [.int .u8 c.toNat] w.heap.size rfl rfl rfl Hone (by omega) ?_)
    intro v' w1 hown1 ht1 hl1
    obtain ⟨A7, c7, rfl⟩ := (rd_of_own hown1).shape
    have hM1 := hM.touch ht1 (fun e => hne bm e rfl)
    have k5 := hM1.c5
    have f5 := hM1.fz 5
    have k6 := hM1.c6
    have f6 := hM1.fz 6
    go_wp2_with fail
    have hMx := (hM1.set5 (.slice A7 (x.b.length + 1) c7)).set6 ((x.left : Int) - 1)
    have ht2 := ((Touch.refl (fun j => j = bm) w1).setCell (p := ⟨bm, 5, none⟩) rfl (.slice A7 (x.b.length + 1) c7)).setCell (p := ⟨bm, 6, none⟩) rfl (.int .i64 ((x.left : Int) - 1))
    generalize (w1.setCell ⟨bm, 5, none⟩ (.slice A7 (x.b.length + 1) c7)).setCell ⟨bm, 6, none⟩ (.int .i64 ((x.left : Int) - 1)) = w2 at hMx ht2 ⊢
    refine (line_clo 155 w2).mono ?_
    rintro e w3 ⟨rfl, rfl⟩
    have hM3 := hMx.below ((Below.refl w2.heap.size w2).alloc (Nat.le_refl _) (.cells #[.func (.func 155) #[] #[]] 163))
    have k0 := hM3.c0
    have f0 := hM3.fz 0
    have hs2 : w.heap.size ≤ w2.heap.size := Nat.le_trans ht1.size ht2.size
    have ht3 := (ht2.next ((Below.refl w2.heap.size w2).alloc (Nat.le_refl _) (.cells #[.func (.func 155) #[] #[]] 163))).setCell (p := ⟨bm, 0, none⟩) rfl (.func (.func 156) #[] #[.pointer (some ⟨w2.heap.size, 0, none⟩)])
    have hMB := Lib.hid (body_more HF.out hM hH'.out HB.out c hown1 ht1 hl1 h1 _ ht3 (hM3.set0 _) .lineC)
    have HT := Lib.hid ((ht1.mono (G := F) fun j _ h => HB.out.2 j h).trans (ht3.mono fun j _ h => h ▸ HF.out.1))
    have HC := Lib.hid (clo_new (bm := bm) (fn := 156) (g := 155) (.func (.func 156) #[] #[.pointer (some ⟨w2.heap.size, 0, none⟩)]) HF.out.2 hs2 hMx.lt)
    clear ht3 hs2
    go_wp2_with fail
    go_ret
    exact ⟨rfl, HT.out, fun _ => ⟨_, hv, by rw [Hc.out]; exact hMB.out, by rw [Hc.out]; exact HC.out, fun h => by rw [Hc.out] at h; cases h⟩, fun h => by cases h⟩
  · rw [if_neg hlast] at Hc
    have h3 : (((x.left : Int) - 1) == 0) = false := by simp; omega
    clear hlast
    go_enter Tryz.func133, Tryz.ntmps133
    go_wp2_with (at_builtin; refine wpList_pushAt _ rfl _ _ 22 rfl rowB _ _ _ rfl HB.out.1 [.int .u8 c.toNat] w.heap.size rfl rfl rfl Hone (by omega) ?_)
    intro v' w1 hown1 ht1 hl1
    obtain ⟨A7, c7, rfl⟩ := (rd_of_own hown1).shape
    have hM1 := hM.touch ht1 (fun e => hne bm e rfl)
    have k5 := hM1.c5
    have f5 := hM1.fz 5
    have k6 := hM1.c6
    have f6 := hM1.fz 6
    have hMx := (hM1.set5 (.slice A7 (x.b.length + 1) c7)).set6 ((x.left : Int) - 1)
    have ht2 := ((Touch.refl (fun j => j = bm) w1).setCell (p := ⟨bm, 5, none⟩) rfl (.slice A7 (x.b.length + 1) c7)).setCell (p := ⟨bm, 6, none⟩) rfl (.int .i64 ((x.left : Int) - 1))
    have hMB := Lib.hid (body_more HF.out hM hH'.out HB.out c hown1 ht1 hl1 h1 nx ht2 hMx .chunk)
    have HT := Lib.hid ((ht1.mono (G := F) fun j _ h => HB.out.2 j h).trans (ht2.mono fun j _ h => h ▸ HF.out.1))
    go_wp2
    go_ret
    exact ⟨rfl, HT.out, fun _ => ⟨nx, hv, by rw [Hc.out]; exact hMB.out, by rw [hst] at hN; rw [Hc.out]; exact hN, fun h => by rw [Hc.out] at h; cases h⟩, fun h => by cases h⟩
end Go.Proofs.YtmhgnaemafohfaaGreatDoor
