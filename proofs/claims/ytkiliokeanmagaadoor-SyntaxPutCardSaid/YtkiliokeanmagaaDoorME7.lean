/- Part 8 of 14: what the functions do. -/
import Derived.Test.YtkiliokeanmagaaDoorME6
import Derived.Test.YtkiliokeanmagaaDoorProg
import Derived.Shelf.Small.Strs
import Derived.Shelf.LaysM
import Derived.Shelf.Spec.SlicesGrow
import Derived.KernelRfl
namespace Go.Proofs.YtkiliokeanmagaaDoor
open Go
set_option linter.unusedVariables false
def layRen : Go.Shelf.Ren := ⟨fun | 137 => 86 | 217 => 92 | 266 => 94 | n => n, fun | 9 => 9 | 5 => 5 | 3 => 3 | n => n, fun n => n⟩
theorem lays137 : Go.Proofs.Lays.n137 Tryd.prog layRen where
  mixed := by kernel_rfl
  f137 := Tryd.func86.trans (congrArg some (by kernel_rfl))
  f217 := Tryd.func92.trans (congrArg some (by kernel_rfl))
  f266 := Tryd.func94.trans (congrArg some (by kernel_rfl))
  t3 := Tryd.underlying3
  a3 := Tryd.isAgg3
  z3 := Tryd.sizeOf3
  v3 := Tryd.zeroValue3
  t5 := Tryd.underlying5
  a5 := Tryd.isAgg5
  z5 := Tryd.sizeOf5
  v5 := Tryd.zeroValue5
  t9 := Tryd.underlying9
  a9 := Tryd.isAgg9
  z9 := Tryd.sizeOf9
  v9 := Tryd.zeroValue9
theorem indexByte_at (s : ByteArray) (c : Int) (w : World) :
    Calls Tryd.prog 86 #[.string s, .int .u8 c] w fun e w' => e = .returned (.int .i64 (Lib.indexByte s.data.toList c.toNat.toUInt8)) ∧ w' = w := Any.strings_IndexByte lays137 s c w
def growRen : Go.Shelf.Ren := ⟨fun | 4 => 83 | n => n, fun | 22 => 26 | 25 => 3 | n => n, fun n => n⟩
theorem growLay : Go.Proofs.Lays8.n4 Tryd.prog growRen where
  mixed := by kernel_rfl
  f4 := ⟨"slices.Grow[[]int,int]", by decide, Tryd.func83.trans (congrArg some (by kernel_rfl))⟩
  t0 := Tryd.underlying0
  a0 := Tryd.isAgg0
  z0 := Tryd.sizeOf0
  v0 := Tryd.zeroValue0
  t3 := Tryd.underlying3
  a3 := Tryd.isAgg3
  z3 := Tryd.sizeOf3
  v3 := Tryd.zeroValue3
  t4 := Tryd.underlying4
  a4 := Tryd.isAgg4
  z4 := Tryd.sizeOf4
  v4 := Tryd.zeroValue4
  t9 := Tryd.underlying9
  a9 := Tryd.isAgg9
  z9 := Tryd.sizeOf9
  v9 := Tryd.zeroValue9
  t20 := Tryd.underlying20
  a20 := Tryd.isAgg20
  z20 := Tryd.sizeOf20
  v20 := Tryd.zeroValue20
  t22 := Tryd.underlying26
  a22 := Tryd.isAgg26
  z22 := Tryd.sizeOf26
  v22 := Tryd.zeroValue26
theorem grow_nothing (w : World) : Calls Tryd.prog 83 #[.slice none 0 0, .int .i64 0] w fun e w' => e = .returned (.slice none 0 0) ∧ w' = w :=
  Any8.slices_Grow_room growLay none 0 0 0 w (by omega) (by omega) (by omega) (by omega)
theorem info3 : ∃ i0, Tryd.prog.info? 3 = some i0 ∧ i0.zero = some (.int .i64 0) ∧ i0.size = 1 ∧ i0.bytes = 8 := by
  have : (Tryd.prog.info? 3).map (fun i => (i.zero, i.size, i.bytes)) = some (some (.int .i64 0), 1, 8) := by kernel_rfl
  cases h : Tryd.prog.info? 3 with
  | none => rw [h] at this; cases this
  | some i => rw [h] at this; simp only [Option.map_some, Option.some.injEq, Prod.mk.injEq] at this; exact ⟨i, rfl, this.1, this.2.1, this.2.2⟩
theorem grow_some (n : Nat) (hn : n ≠ 0) (hb : n * 8 ≤ 140737488355328) (w : World) : Calls Tryd.prog 83 #[.slice none 0 0, .int .i64 n] w fun e w' => ∃ (cap : Nat) (c : Array Value), e = .returned (.slice (some ⟨w.heap.size, 0, none⟩) 0 cap) ∧ w' = w.drew.alloc (.cells c 3) ∧ cap ≤ c.size := by
  obtain ⟨i0, h0, h1, h2, h3⟩ := info3
  have h := Any8.slices_Grow_grow growLay i0 (.int .i64 0) h0 h1 (by omega) none 0 0 n [] w (by omega) (by omega) (by rw [h3]; omega) (by omega) (by simp) (fun _ => rfl) (fun _ e => by cases e)
  refine Calls.mono h ?_
  rintro e w' ⟨rfl, rfl⟩
  refine ⟨_, _, rfl, rfl, ?_⟩
  have hz : ∀ k, (Builtin.zeroCells (Value.int .i64 0).cells k).size = k := fun k => by rw [size_zeroCells]; simp [Value.cells]
  simp only [Array.size_append, hz, List.size_toArray, List.length_nil]
  omega
namespace Ab
def growE : List V → List O → Option (V × List O)
  | [.sl [] .nil, .c (.int .i64 n)], h => if n = 0 then some (.sl [] .nil, h) else if 0 < n ∧ n * 8 ≤ 140737488355328 then some (.sl [] (.tok h.length), h ++ [.tok 0 1]) else none
  | _, _ => none
theorem grow_at {args : List V} {h : List O} {r : V} {h' : List O} (e : growE args h = some (r, h')) : CallAt Tryd.prog 83 args h r h' := by
  intro g w cargs H hl hr
  unfold growE at e
  split at e
  rotate_left
  · cases e
  rename_i n
  obtain ⟨l⟩ := cargs
  match l, hl with
  | [x, y], _ =>
  have h1 : x = .slice none 0 0 := by
    have := hr 0 (by simp) (by simp)
    simp only [List.getElem_toArray, List.getElem_cons_zero] at this
    cases this with
    | sl A n cap us i z cv hn hc hzz hA h hi =>
      obtain ⟨rfl, rfl⟩ := hi
      have : n = 0 := by simpa using hn
      rw [this]
  have h2 : y = .int .i64 n := (hr 1 (by simp) (by simp)).of_c
  subst h1 h2
  split at e
  · rename_i hn
    subst hn
    simp only [Option.some.injEq, Prod.mk.injEq] at e
    obtain ⟨rfl, rfl⟩ := e
    refine Calls.mono (grow_nothing w) ?_
    rintro e w' ⟨rfl, rfl⟩
    exact ⟨_, g, rfl, Le.refl _ _, H, hr 0 (by simp) (by simp), Quiet.refl _ _ _⟩
  · split at e
    · rename_i hn0 hn
      simp only [Option.some.injEq, Prod.mk.injEq] at e
      obtain ⟨rfl, rfl⟩ := e
      obtain ⟨k, rfl⟩ : ∃ k : Nat, n = k := ⟨n.toNat, by omega⟩
      refine Calls.mono (grow_some k (by omega) (by omega) w) ?_
      rintro e w' ⟨cap, c, rfl, rfl, hc⟩
      have H1 := H.append [.dead]
      obtain ⟨hle, hok⟩ := H1.newRow (k := h.length) (n := 0) (cap := cap) (z := 1) (c := c) (T := 3) (by simp) (H.blk_none (Nat.le_refl _)) (fun b' n' c' e => by rw [H.tok_none (Nat.le_refl _)] at e; cases e) (Grew.drewAlloc w _) (by omega) (by omega)
      rw [show (h ++ [O.dead]).set h.length (.tok 0 1) = h ++ [.tok 0 1] by simp] at hok
      refine ⟨_, _, rfl, hle, hok, .sl _ 0 cap [] _ 1 (fun _ => .int .i64 0) rfl (by omega) (by simp) (fun h => absurd rfl h) (fun j hj => by simp [flats] at hj) ⟨w.heap.size, 0, cap, by simp [Gh.setTok], Nat.le_refl _, fun _ => ⟨rfl, rfl⟩⟩, fun id hid => ?_⟩
      have hne : id ≠ h.length := fun e => hid (.inl (by omega))
      have hlt : id < h.length := by
        by_cases hq : id < h.length
        · exact hq
        · exact absurd (.inl (by omega)) hid
      exact ⟨fun h => h, fun h => by simp [Gh.setTok, hne, h], fun _ _ => by rw [List.getElem?_append_left hlt]⟩
    · cases e
end Ab
end Go.Proofs.YtkiliokeanmagaaDoor

