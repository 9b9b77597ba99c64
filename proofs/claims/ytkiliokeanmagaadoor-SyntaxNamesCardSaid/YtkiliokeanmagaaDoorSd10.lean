/- Data as trees, and the reference's Parts and Deep of them. -/
import Derived.Test.YtkiliokeanmagaaDoorAb28
import Derived.Test.YtkiliokeanmagaaDoorSdw
import Derived.Test.YtkiliokeanmagaaDoorSd8
import Derived.IntWalk
import Derived.KernelRfl
namespace Go.Proofs.YtkiliokeanmagaaDoor.Ab
open Go
set_option linter.unusedVariables false
set_option linter.unusedSimpArgs false

/-- Data. -/
inductive D where
  | mk (k n : Int) (t : ByteArray) (l : List D)
mutual
def D.v : D → V
  | .mk k n t l => .agg [.c (.int .i64 k), .c (.int .i64 n), .c (.string t), .sl (D.vs l) .any]
def D.vs : List D → List V
  | [] => []
  | d :: l => d.v :: D.vs l
end
mutual
def D.sz : D → Nat
  | .mk _ _ _ l => 1 + D.szs l
def D.szs : List D → Nat
  | [] => 0
  | d :: l => d.sz + D.szs l
end
mutual
def D.dp : D → Nat
  | .mk _ _ _ l => D.dps l + 1
def D.dps : List D → Nat
  | [] => 0
  | d :: l => max d.dp (D.dps l)
end
def D.kids : D → List D
  | .mk _ _ _ l => l
theorem D.ind {P : D → Prop} (h : ∀ k n t l, (∀ x ∈ l, P x) → P (.mk k n t l)) : ∀ d, P d := by
  have key : ∀ m d, d.sz ≤ m → P d := by
    intro m
    induction m with
    | zero => intro d hd; cases d; simp only [D.sz] at hd; omega
    | succ m ih =>
      intro d hd
      obtain ⟨k, n, t, l⟩ := d
      refine h k n t l fun x hx => ih x ?_
      have : ∀ l : List D, x ∈ l → x.sz ≤ D.szs l := by
        intro l
        induction l with
        | nil => intro h; simp at h
        | cons y l ihl =>
          intro hx
          simp only [D.szs]
          rcases List.mem_cons.1 hx with rfl | hx
          · omega
          · have := ihl hx; omega
      have := this l hx
      simp only [D.sz] at hd
      omega
  exact fun d => key _ d (Nat.le_refl _)
theorem D.vs_map : ∀ l : List D, D.vs l = l.map D.v
  | [] => rfl
  | d :: l => by simp only [D.vs, List.map_cons, D.vs_map l]
theorem D.vs_len (l : List D) : (D.vs l).length = l.length := by simp [D.vs_map]
theorem D.vs_get {l : List D} {j : Nat} (h : j < l.length) : (D.vs l)[j]? = some (l[j]).v := by simp [D.vs_map, h]
theorem D.cells_len (d : D) : d.v.cells.length = 4 := by obtain ⟨k, n, t, l⟩ := d; rfl
theorem D.rd (d : D) : rdV d.v.cells 0 (some 4) = some d.v := by obtain ⟨k, n, t, l⟩ := d; rfl
theorem D.vw2 (d : D) : d.v.vw2 = d.v := by obtain ⟨k, n, t, l⟩ := d; rfl
theorem D.vw (d : D) : d.v.vw = d.v := by obtain ⟨k, n, t, l⟩ := d; rfl
theorem D.low (m : Nat) : ∀ d : D, d.v.low m = true := by
  refine D.ind fun k n t l ih => ?_
  have : V.lows m (D.vs l) = true := by
    rw [D.vs_map]
    refine lows_of fun v hv => ?_
    obtain ⟨d, hd, rfl⟩ := List.mem_map.1 hv
    exact ih d hd
  simp [D.v, V.low, V.lows, this, SI.low]
theorem D.lows (m : Nat) (l : List D) : V.lows m (D.vs l) = true := by
  rw [D.vs_map]
  refine lows_of fun v hv => ?_
  obtain ⟨d, hd, rfl⟩ := List.mem_map.1 hv
  exact D.low m d
theorem D.mem_sz {l : List D} {x : D} (h : x ∈ l) : x.sz ≤ D.szs l := by
  induction l with
  | nil => simp at h
  | cons y l ih =>
    simp only [D.szs]
    rcases List.mem_cons.1 h with rfl | h
    · omega
    · have := ih h; omega
theorem D.sz_pos (d : D) : 1 ≤ d.sz := by cases d; simp only [D.sz]; omega
theorem D.len_szs : ∀ l : List D, l.length ≤ D.szs l
  | [] => Nat.le_refl _
  | d :: l => by have := D.sz_pos d; have := D.len_szs l; simp only [D.szs, List.length_cons]; omega
theorem D.szs_take (l : List D) (j : Nat) (h : j < l.length) : D.szs (l.take (j + 1)) = D.szs (l.take j) + (l[j]).sz := by
  induction l generalizing j with
  | nil => simp at h
  | cons d l ih =>
    cases j with
    | zero => simp [D.szs]
    | succ j =>
      simp only [List.take_succ_cons, D.szs, List.getElem_cons_succ]
      rw [ih j (by simpa using h)]
      omega
theorem D.szs_take_le (l : List D) (j : Nat) : D.szs (l.take j) ≤ D.szs l := by
  induction l generalizing j with
  | nil => simp
  | cons d l ih =>
    cases j with
    | zero => simp [D.szs]
    | succ j => simp only [List.take_succ_cons, D.szs]; have := ih j; omega

theorem D.vs_getE {l : List D} {j : Nat} (h : j < (D.vs l).length) : (D.vs l)[j] = (l[j]'(by rwa [D.vs_len] at h)).v := by
  have := D.vs_get (l := l) (j := j) (by rwa [D.vs_len] at h)
  rw [List.getElem?_eq_getElem h] at this
  simpa using this
theorem D.okc (d : D) : Ab.okc d.v = true := by obtain ⟨k, n, t, l⟩ := d; rfl
theorem D.spl (a b c e : V) (d : D) : splice [a, b, c, e] 0 d.v.cells = d.v.cells := by obtain ⟨k, n, t, l⟩ := d; rfl
theorem D.spl2 (d' d : D) : splice d'.v.cells 0 d.v.cells = d.v.cells := by obtain ⟨k, n, t, l⟩ := d; obtain ⟨k', n', t', l'⟩ := d'; rfl
theorem wrap_in {a : Int} (h : -9223372036854775808 ≤ a ∧ a ≤ 9223372036854775807) : IntKind.i64.wrap a = a := by
  rw [IntWalk.i64_left]
  exact IntWalk.wrap64_in a h
/-- What a function gives, whatever the objects are. -/
def Gives (n f : Nat) (args : List V) (r : V) : Prop := ∀ h : List O, call X E n f args h = some (r, h)
theorem gives_up {n n' f : Nat} {args : List V} {r : V} (hn : n ≤ n') (h : Gives n f args r) : Gives n' f args r := fun hh => up hn (h hh)
theorem gives_of {n f k : Nat} {xf : XF} {args : List V} {r : V} (hE : E f = none) (hX : X f = some xf) (hk : args.length = k) (hx : xfOk xf k = true) (hp : xf.pure = true ∧ xf.esc = false) (hl : V.lows 0 (args.map V.vw2) = true)
    (hw : wpk (call X E n) n xf.body [] (Fin (fun vs _ => (resOf vs).vw = r ∧ r.low 0 = true) xf) ⟨arg0 (args.map V.vw2), [], 0, 0⟩) (ha : xf.asg = none := by rfl) : Gives (n + 1) f args r := by
  intro h
  simp only [call, hE, hX, ha]
  subst hk
  exact runF_pure hx hp.1 hp.2 hl hw
theorem gives_nil {n f : Nat} {args : List V} {r : V} {h0 : List O} (hf : pfl f = 1) (h : call X E n f args [] = some (r, h0)) : Gives n f args r := by
  intro hh
  have := ((call_ok ext_ok laid yc_all pures mixed n).2 f args [] r h0 h).1 hf
  exact this.2 hh (fun id o _ e => by simp at e)
end Go.Proofs.YtkiliokeanmagaaDoor.Ab
