/- Fresh memories and rings; the test 'known'. -/
import Derived.Test.YtliikmmcbbmppaaDoorFew
namespace Go.Proofs.YtliikmmcbbmppaaDoor
open Go.RowKit Go.ChangeMaps

theorem allm_new {w1 : World} {M R T : Nat} {size : Int} (h : okSize size) (hM : w1.heap[M]? = some (.cells #[.slice none 0 0] 60 (0, 0))) (hT : w1.heap[T]? = some (.map #[] 0))
    (hR : w1.heap[R]? = some (.cells #[.int .i64 size, .int .i64 0, .pointer (some ⟨M, 0, none⟩), .slice none 0 0, .map (some T)] 67 (0, 0))) : AllM w1 M R T (.slice none 0 0) [] size (.slice none 0 0) [] [] 0 where
  mem := ⟨hM, RowAt.nil _ _ _, by simp, by simp, by simp⟩
  ring := ⟨by simpa [used] using hR, RowAt.nil _ _ _, by simp, by simpa [mapObj] using hT, by simp [pend], by simp, by simp, by simp [pend], by simp, by have := h.1; simp [used]; omega, ⟨h.1, h.2.1⟩⟩
  tie := by simp
  sep := by simp
  ndd := by simp [doneR]
  lens := by simp
  idle := by simp

theorem allr_new {w1 : World} {M R : Nat} {size : Int} (h : okSize size) (hM : w1.heap[M]? = some (.cells #[.slice none 0 0] 63 (0, 0)))
    (hR : w1.heap[R]? = some (.cells #[.int .i64 size, .pointer (some ⟨M, 0, none⟩), .slice none 0 0] 70 (0, 0))) : AllR w1 M R (.slice none 0 0) [] size (.slice none 0 0) [] where
  mem := ⟨hM, RowAt.nil _ _ _, by simp, by simp, by simp⟩
  ring := ⟨hR, RowAt.nil _ _ _, by simp, by simp, by have := h.1; simp [used]; omega, ⟨h.1, h.2.1⟩⟩
  tie := by simp
  sep := by simp
  lens := by simp
  idle := by simp

def kA0 : AM := []
def kq0 : List ARec := []
def kA1 : AM := [(true, [0, 0, 0, 0, 0, 0, 0, 0])]
def kq1 : List ARec := [⟨1, 8, 0, []⟩]
def kA2 : AM := [(true, [0, 0, 0, 0, 0, 0, 0, 0]), (true, [0, 0, 0, 0, 0, 0, 0, 0])]
def kq2 : List ARec := [⟨1, 8, 0, []⟩, ⟨2, 8, 0, []⟩]
def kA3 : AM := [(true, [0, 0, 0, 0, 0, 0, 0, 0]), (false, [0, 0, 0, 0, 0, 0, 0, 0])]
def kq3 : List ARec := [⟨1, 8, 0, []⟩, ⟨2, 8, 1, [0, 0, 0, 0, 0, 0, 0, 0]⟩]
def kA4 : AM := [(false, [0, 0, 0, 0, 0, 0, 0, 0]), (false, [0, 0, 0, 0, 0, 0, 0, 0])]
def kq4 : List ARec := [⟨1, 8, 1, [0, 0, 0, 0, 0, 0, 0, 0]⟩, ⟨2, 8, 1, [0, 0, 0, 0, 0, 0, 0, 0]⟩]
theorem kn1 : aReserve 32 kA0 kq0 8 = ((1, 0), kA1, kq1) := by rfl
theorem kn2 : aReserve 32 kA1 kq1 8 = ((2, 0), kA2, kq2) := by rfl
theorem kn3 : aReserve 32 kA2 kq2 1 = ((0, 102), kA2, kq2) := by rfl
theorem kn4 : aEnd kA2 kq2 2 1 = (0, kA3, kq3) := by rfl
theorem kn5 : aRead kq3 = ([], kq3) := by rfl
theorem kn6 : aEnd kA3 kq3 1 1 = (0, kA4, kq4) := by rfl
theorem kn7 : aRead kq4 = ([[0, 0, 0, 0, 0, 0, 0, 0], [0, 0, 0, 0, 0, 0, 0, 0]], kq0) := by rfl
end Go.Proofs.YtliikmmcbbmppaaDoor
