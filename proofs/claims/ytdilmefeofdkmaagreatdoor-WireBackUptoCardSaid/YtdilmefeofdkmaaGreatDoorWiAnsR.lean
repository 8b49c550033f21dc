/-
  WIRE: what an error, a status is called. (Printed by wip/gen/wians.py R.)
-/
import Derived.Test.YtdilmefeofdkmaaGreatDoorSm0
namespace Go.Proofs.YtdilmefeofdkmaaGreatDoor
open Go.RowKit

def reasonL (n : Int) : List UInt8 :=
  if n = 200 then [79, 75] else
  if n = 204 then [78, 111, 32, 67, 111, 110, 116, 101, 110, 116] else
  if n = 206 then [80, 97, 114, 116, 105, 97, 108, 32, 67, 111, 110, 116, 101, 110, 116] else
  if n = 400 then [66, 97, 100, 32, 82, 101, 113, 117, 101, 115, 116] else
  if n = 403 then [70, 111, 114, 98, 105, 100, 100, 101, 110] else
  if n = 404 then [78, 111, 116, 32, 70, 111, 117, 110, 100] else
  if n = 405 then [77, 101, 116, 104, 111, 100, 32, 78, 111, 116, 32, 65, 108, 108, 111, 119, 101, 100] else
  if n = 409 then [67, 111, 110, 102, 108, 105, 99, 116] else
  if n = 411 then [76, 101, 110, 103, 116, 104, 32, 82, 101, 113, 117, 105, 114, 101, 100] else
  if n = 413 then [67, 111, 110, 116, 101, 110, 116, 32, 84, 111, 111, 32, 76, 97, 114, 103, 101] else
  if n = 414 then [85, 82, 73, 32, 84, 111, 111, 32, 76, 111, 110, 103] else
  if n = 416 then [82, 97, 110, 103, 101, 32, 78, 111, 116, 32, 83, 97, 116, 105, 115, 102, 105, 97, 98, 108, 101] else
  if n = 431 then [82, 101, 113, 117, 101, 115, 116, 32, 72, 101, 97, 100, 101, 114, 32, 70, 105, 101, 108, 100, 115, 32, 84, 111, 111, 32, 76, 97, 114, 103, 101] else
  if n = 500 then [73, 110, 116, 101, 114, 110, 97, 108, 32, 83, 101, 114, 118, 101, 114, 32, 69, 114, 114, 111, 114] else
  if n = 501 then [78, 111, 116, 32, 73, 109, 112, 108, 101, 109, 101, 110, 116, 101, 100] else
  if n = 503 then [83, 101, 114, 118, 105, 99, 101, 32, 85, 110, 97, 118, 97, 105, 108, 97, 98, 108, 101] else
  if n = 505 then [72, 84, 84, 80, 32, 86, 101, 114, 115, 105, 111, 110, 32, 78, 111, 116, 32, 83, 117, 112, 112, 111, 114, 116, 101, 100] else
  if n = 507 then [73, 110, 115, 117, 102, 102, 105, 99, 105, 101, 110, 116, 32, 83, 116, 111, 114, 97, 103, 101] else
  []
def statusL (e : Int) : Int :=
  if e = 0 then 200 else
  if e = 60 ∨ e = 61 ∨ e = 62 ∨ e = 63 ∨ e = 64 ∨ e = 72 ∨ e = 76 ∨ e = 80 ∨ e = 84 ∨ e = 86 ∨ e = 87 ∨ e = 88 ∨ e = 89 ∨ e = 90 ∨ e = 93 ∨ e = 98 then 400 else
  if e = 71 ∨ e = 73 ∨ e = 74 ∨ e = 75 then 403 else
  if e = 77 ∨ e = 81 ∨ e = 82 ∨ e = 85 ∨ e = 91 ∨ e = 92 then 404 else
  if e = 83 then 405 else
  if e = 78 ∨ e = 79 then 409 else
  if e = 65 then 413 else
  if e = 66 then 414 else
  if e = 97 then 416 else
  if e = 67 then 431 else
  if e = 68 ∨ e = 69 ∨ e = 94 then 501 else
  if e = 96 then 503 else
  if e = 70 then 505 else
  if e = 95 then 507 else
  500

set_option maxHeartbeats 8000000 in
set_option maxRecDepth 100000 in
theorem reason_any (n : Int) (w : World) : Calls Tryz.prog 28 #[.int .i64 n] w fun e w' => e = .returned (.string ⟨(reasonL n).toArray⟩) ∧ w' = w := by
  by_cases h0 : n = 200
  · subst h0
    go_enter Tryz.func28, Tryz.ntmps28
    go_wp2
    go_ret
    exact ⟨rfl, rfl⟩
  by_cases h1 : n = 204
  · subst h1
    clear h0
    go_enter Tryz.func28, Tryz.ntmps28
    go_wp2
    go_ret
    exact ⟨rfl, rfl⟩
  by_cases h2 : n = 206
  · subst h2
    clear h0 h1
    go_enter Tryz.func28, Tryz.ntmps28
    go_wp2
    go_ret
    exact ⟨rfl, rfl⟩
  by_cases h3 : n = 400
  · subst h3
    clear h0 h1 h2
    go_enter Tryz.func28, Tryz.ntmps28
    go_wp2
    go_ret
    exact ⟨rfl, rfl⟩
  by_cases h4 : n = 403
  · subst h4
    clear h0 h1 h2 h3
    go_enter Tryz.func28, Tryz.ntmps28
    go_wp2
    go_ret
    exact ⟨rfl, rfl⟩
  by_cases h5 : n = 404
  · subst h5
    clear h0 h1 h2 h3 h4
    go_enter Tryz.func28, Tryz.ntmps28
    go_wp2
    go_ret
    exact ⟨rfl, rfl⟩
  by_cases h6 : n = 405
  · subst h6
    clear h0 h1 h2 h3 h4 h5
    go_enter Tryz.func28, Tryz.ntmps28
    go_wp2
    go_ret
    exact ⟨rfl, rfl⟩
  by_cases h7 : n = 409
  · subst h7
    clear h0 h1 h2 h3 h4 h5 h6
    go_enter Tryz.func28, Tryz.ntmps28
    go_wp2
    go_ret
    exact ⟨rfl, rfl⟩
  by_cases h8 : n = 411
  · subst h8
    clear h0 h1 h2 h3 h4 h5 h6 h7
    go_enter Tryz.func28, Tryz.ntmps28
    go_wp2
    go_ret
    exact ⟨rfl, rfl⟩
  by_cases h9 : n = 413
  · subst h9
    clear h0 h1 h2 h3 h4 h5 h6 h7 h8
    go_enter Tryz.func28, Tryz.ntmps28
    go_wp2
    go_ret
    exact ⟨rfl, rfl⟩
  by_cases h10 : n = 414
  · subst h10
    clear h0 h1 h2 h3 h4 h5 h6 h7 h8 h9
    go_enter Tryz.func28, Tryz.ntmps28
    go_wp2
    go_ret
    exact ⟨rfl, rfl⟩
  by_cases h11 : n = 416
  · subst h11
    clear h0 h1 h2 h3 h4 h5 h6 h7 h8 h9 h10
    go_enter Tryz.func28, Tryz.ntmps28
    go_wp2
    go_ret
    exact ⟨rfl, rfl⟩
  by_cases h12 : n = 431
  · subst h12
    clear h0 h1 h2 h3 h4 h5 h6 h7 h8 h9 h10 h11
    go_enter Tryz.func28, Tryz.ntmps28
    go_wp2
    go_ret
    exact ⟨rfl, rfl⟩
  by_cases h13 : n = 500
  · subst h13
    clear h0 h1 h2 h3 h4 h5 h6 h7 h8 h9 h10 h11 h12
    go_enter Tryz.func28, Tryz.ntmps28
    go_wp2
    go_ret
    exact ⟨rfl, rfl⟩
  by_cases h14 : n = 501
  · subst h14
    clear h0 h1 h2 h3 h4 h5 h6 h7 h8 h9 h10 h11 h12 h13
    go_enter Tryz.func28, Tryz.ntmps28
    go_wp2
    go_ret
    exact ⟨rfl, rfl⟩
  by_cases h15 : n = 503
  · subst h15
    clear h0 h1 h2 h3 h4 h5 h6 h7 h8 h9 h10 h11 h12 h13 h14
    go_enter Tryz.func28, Tryz.ntmps28
    go_wp2
    go_ret
    exact ⟨rfl, rfl⟩
  by_cases h16 : n = 505
  · subst h16
    clear h0 h1 h2 h3 h4 h5 h6 h7 h8 h9 h10 h11 h12 h13 h14 h15
    go_enter Tryz.func28, Tryz.ntmps28
    go_wp2
    go_ret
    exact ⟨rfl, rfl⟩
  by_cases h17 : n = 507
  · subst h17
    clear h0 h1 h2 h3 h4 h5 h6 h7 h8 h9 h10 h11 h12 h13 h14 h15 h16
    go_enter Tryz.func28, Tryz.ntmps28
    go_wp2
    go_ret
    exact ⟨rfl, rfl⟩
  have hr : reasonL n = [] := by unfold reasonL; simp only [h0, h1, h2, h3, h4, h5, h6, h7, h8, h9, h10, h11, h12, h13, h14, h15, h16, h17, if_false]
  rw [hr]
  clear hr
  have e0 : (n == 200) = false := by simpa using h0
  have e1 : (n == 204) = false := by simpa using h1
  have e2 : (n == 206) = false := by simpa using h2
  have e3 : (n == 400) = false := by simpa using h3
  have e4 : (n == 403) = false := by simpa using h4
  have e5 : (n == 404) = false := by simpa using h5
  have e6 : (n == 405) = false := by simpa using h6
  have e7 : (n == 409) = false := by simpa using h7
  have e8 : (n == 411) = false := by simpa using h8
  have e9 : (n == 413) = false := by simpa using h9
  have e10 : (n == 414) = false := by simpa using h10
  have e11 : (n == 416) = false := by simpa using h11
  have e12 : (n == 431) = false := by simpa using h12
  have e13 : (n == 500) = false := by simpa using h13
  have e14 : (n == 501) = false := by simpa using h14
  have e15 : (n == 503) = false := by simpa using h15
  have e16 : (n == 505) = false := by simpa using h16
  have e17 : (n == 507) = false := by simpa using h17
  clear h0 h1 h2 h3 h4 h5 h6 h7 h8 h9 h10 h11 h12 h13 h14 h15 h16 h17
  go_enter Tryz.func28, Tryz.ntmps28
  go_wp2
  go_ret
  exact ⟨rfl, rfl⟩

set_option maxHeartbeats 8000000 in
set_option maxRecDepth 100000 in
theorem rReason_any (n : Int) (w : World) : Calls Tryz.prog 29 #[.int .i64 n] w fun e w' => e = .returned (.string ⟨(reasonL n).toArray⟩) ∧ w' = w := by
  by_cases h0 : n = 200
  · subst h0
    go_enter Tryz.func29, Tryz.ntmps29
    go_wp2
    go_ret
    exact ⟨rfl, rfl⟩
  by_cases h1 : n = 204
  · subst h1
    clear h0
    go_enter Tryz.func29, Tryz.ntmps29
    go_wp2
    go_ret
    exact ⟨rfl, rfl⟩
  by_cases h2 : n = 206
  · subst h2
    clear h0 h1
    go_enter Tryz.func29, Tryz.ntmps29
    go_wp2
    go_ret
    exact ⟨rfl, rfl⟩
  by_cases h3 : n = 400
  · subst h3
    clear h0 h1 h2
    go_enter Tryz.func29, Tryz.ntmps29
    go_wp2
    go_ret
    exact ⟨rfl, rfl⟩
  by_cases h4 : n = 403
  · subst h4
    clear h0 h1 h2 h3
    go_enter Tryz.func29, Tryz.ntmps29
    go_wp2
    go_ret
    exact ⟨rfl, rfl⟩
  by_cases h5 : n = 404
  · subst h5
    clear h0 h1 h2 h3 h4
    go_enter Tryz.func29, Tryz.ntmps29
    go_wp2
    go_ret
    exact ⟨rfl, rfl⟩
  by_cases h6 : n = 405
  · subst h6
    clear h0 h1 h2 h3 h4 h5
    go_enter Tryz.func29, Tryz.ntmps29
    go_wp2
    go_ret
    exact ⟨rfl, rfl⟩
  by_cases h7 : n = 409
  · subst h7
    clear h0 h1 h2 h3 h4 h5 h6
    go_enter Tryz.func29, Tryz.ntmps29
    go_wp2
    go_ret
    exact ⟨rfl, rfl⟩
  by_cases h8 : n = 411
  · subst h8
    clear h0 h1 h2 h3 h4 h5 h6 h7
    go_enter Tryz.func29, Tryz.ntmps29
    go_wp2
    go_ret
    exact ⟨rfl, rfl⟩
  by_cases h9 : n = 413
  · subst h9
    clear h0 h1 h2 h3 h4 h5 h6 h7 h8
    go_enter Tryz.func29, Tryz.ntmps29
    go_wp2
    go_ret
    exact ⟨rfl, rfl⟩
  by_cases h10 : n = 414
  · subst h10
    clear h0 h1 h2 h3 h4 h5 h6 h7 h8 h9
    go_enter Tryz.func29, Tryz.ntmps29
    go_wp2
    go_ret
    exact ⟨rfl, rfl⟩
  by_cases h11 : n = 416
  · subst h11
    clear h0 h1 h2 h3 h4 h5 h6 h7 h8 h9 h10
    go_enter Tryz.func29, Tryz.ntmps29
    go_wp2
    go_ret
    exact ⟨rfl, rfl⟩
  by_cases h12 : n = 431
  · subst h12
    clear h0 h1 h2 h3 h4 h5 h6 h7 h8 h9 h10 h11
    go_enter Tryz.func29, Tryz.ntmps29
    go_wp2
    go_ret
    exact ⟨rfl, rfl⟩
  by_cases h13 : n = 500
  · subst h13
    clear h0 h1 h2 h3 h4 h5 h6 h7 h8 h9 h10 h11 h12
    go_enter Tryz.func29, Tryz.ntmps29
    go_wp2
    go_ret
    exact ⟨rfl, rfl⟩
  by_cases h14 : n = 501
  · subst h14
    clear h0 h1 h2 h3 h4 h5 h6 h7 h8 h9 h10 h11 h12 h13
    go_enter Tryz.func29, Tryz.ntmps29
    go_wp2
    go_ret
    exact ⟨rfl, rfl⟩
  by_cases h15 : n = 503
  · subst h15
    clear h0 h1 h2 h3 h4 h5 h6 h7 h8 h9 h10 h11 h12 h13 h14
    go_enter Tryz.func29, Tryz.ntmps29
    go_wp2
    go_ret
    exact ⟨rfl, rfl⟩
  by_cases h16 : n = 505
  · subst h16
    clear h0 h1 h2 h3 h4 h5 h6 h7 h8 h9 h10 h11 h12 h13 h14 h15
    go_enter Tryz.func29, Tryz.ntmps29
    go_wp2
    go_ret
    exact ⟨rfl, rfl⟩
  by_cases h17 : n = 507
  · subst h17
    clear h0 h1 h2 h3 h4 h5 h6 h7 h8 h9 h10 h11 h12 h13 h14 h15 h16
    go_enter Tryz.func29, Tryz.ntmps29
    go_wp2
    go_ret
    exact ⟨rfl, rfl⟩
  have hr : reasonL n = [] := by unfold reasonL; simp only [h0, h1, h2, h3, h4, h5, h6, h7, h8, h9, h10, h11, h12, h13, h14, h15, h16, h17, if_false]
  rw [hr]
  clear hr
  have e0 : (n == 200) = false := by simpa using h0
  have e1 : (n == 204) = false := by simpa using h1
  have e2 : (n == 206) = false := by simpa using h2
  have e3 : (n == 400) = false := by simpa using h3
  have e4 : (n == 403) = false := by simpa using h4
  have e5 : (n == 404) = false := by simpa using h5
  have e6 : (n == 405) = false := by simpa using h6
  have e7 : (n == 409) = false := by simpa using h7
  have e8 : (n == 411) = false := by simpa using h8
  have e9 : (n == 413) = false := by simpa using h9
  have e10 : (n == 414) = false := by simpa using h10
  have e11 : (n == 416) = false := by simpa using h11
  have e12 : (n == 431) = false := by simpa using h12
  have e13 : (n == 500) = false := by simpa using h13
  have e14 : (n == 501) = false := by simpa using h14
  have e15 : (n == 503) = false := by simpa using h15
  have e16 : (n == 505) = false := by simpa using h16
  have e17 : (n == 507) = false := by simpa using h17
  clear h0 h1 h2 h3 h4 h5 h6 h7 h8 h9 h10 h11 h12 h13 h14 h15 h16 h17
  go_enter Tryz.func29, Tryz.ntmps29
  go_wp2
  go_ret
  exact ⟨rfl, rfl⟩

end Go.Proofs.YtdilmefeofdkmaaGreatDoor
