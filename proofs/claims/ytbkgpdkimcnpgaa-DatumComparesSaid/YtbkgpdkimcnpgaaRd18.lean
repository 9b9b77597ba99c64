/- The law of DatumChecks. -/
import Derived.Test.YtbkgpdkimcnpgaaRd17
namespace Go.Proofs.Ytbkgpdkimcnpgaa.Ab
open Go
set_option linter.unusedVariables false
set_option linter.unusedSimpArgs false
set_option maxRecDepth 4000
set_option maxHeartbeats 1000000

theorem cutT_idem (t : ByteArray) : cutT (cutT t) = cutT t := by
  unfold cutT
  simp [ByteArray.extract_extract, ByteArray.size_extract]
mutual
theorem D.cut_idem : ∀ (d : D) (left deep : Nat), (d.cut left deep).1.cut left deep = d.cut left deep
  | .mk k n t l, left, deep => by simp only [D.cut, cutT_idem, D.cuts_idem l]
theorem D.cuts_idem : ∀ (l : List D) (left deep : Nat), D.cuts (D.cuts l left deep).1 left deep = D.cuts l left deep
  | [], left, deep => by simp [D.cuts]
  | d :: l, left, deep => by
    simp only [D.cuts]
    split
    · rename_i h
      simp only [D.cuts, if_pos h, D.cut_idem d, D.cuts_idem l]
    · simp [D.cuts]
end

theorem law3 (d : D) : call X E 20000 3 [d.v] [] = some (.c (.bool true), []) := by
  have hs := D.cut_small d 3000 1020 (by omega)
  have c1 : ∀ h, call X E 19999 14 [d.v] h = some ((d.cut 3000 1020).1.v, h) := run14 d 19998 (by omega)
  have c2 : ∀ h, call X E 19999 14 [(d.cut 3000 1020).1.v] h = some ((d.cut 3000 1020).1.v, h) := fun h => by
    have := run14 (d.cut 3000 1020).1 19998 (by omega) h
    rwa [D.cut_idem] at this
  generalize (d.cut 3000 1020).1 = a at *
  have e1 : ∀ h, call X E 19999 15 [a.v] h = some (.c (.int .i64 a.ck), h) := run15 a (by omega) 19999 (by omega)
  have e2 : ∀ h, call X E 19999 16 [a.v] h = some (.c (.int .i64 a.ck), h) := run16 a (by omega) 19999 (by omega)
  have e3 : ∀ h, call X E 19999 17 [a.v] h = some (.c (.int .i64 a.sz), h) := run17 (n := 19998) (by omega) (by omega)
  have e4 : ∀ h, call X E 19999 18 [a.v] h = some (.c (.int .i64 a.sz), h) := run18 a (by omega) 19999 (by omega)
  have e5 : ∀ h, call X E 19999 19 [a.v] h = some (.c (.int .i64 a.dp), h) := run19 (n := 19998) (by omega) (by omega)
  have e6 : ∀ h, call X E 19999 20 [a.v] h = some (.c (.int .i64 a.dp), h) := run20 a (by omega) 19999 (by omega)
  have e7 : ∀ h, call X E 19999 21 [a.v, a.v] h = some (.c (.bool true), h) := fun h => by
    have := run21 a a (by omega) 19999 (by omega) h
    rwa [D.same_refl] at this
  have e8 : ∀ h, call X E 19999 22 [] h = some (.c (.bool true), h) := gives_nil (n := 19999) rfl (alive_up (by omega))
  refine gives_of (n := 19999) rfl rfl rfl (by kernel_rfl) ⟨rfl, rfl⟩ (by simp [D.vw2, V.lows, D.low]) ?_ []
  simp -implicitDefEqProofs [x3_w, x3_r, x3r1_w, x3r2_w, x3r3_w, x3r4_w, D.vw2, D.okc, D.rd, D.cells_len, D.spl, c1, c2, e1, e2, e3, e4, e5, e6, e7, e8]
end Go.Proofs.Ytbkgpdkimcnpgaa.Ab
