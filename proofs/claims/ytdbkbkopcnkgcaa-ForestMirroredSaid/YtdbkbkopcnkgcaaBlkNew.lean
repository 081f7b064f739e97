import Derived.Test.YtdbkbkopcnkgcaaWorld
open Go Go.RowKit
namespace Go.Proofs.Ytdbkbkopcnkgcaa

theorem blk_new' {w : World} {a : Nat} (ha : w.heap.size = a) (o : Obj) : (w.alloc o).heap[a]? = some o := by subst ha; exact heap_alloc_new w o
theorem blk_new1 {w : World} {a : Nat} (ha : w.heap.size = a) (o o1 : Obj) : ((w.alloc o).alloc o1).heap[a]? = some o := by
  rw [Below.heap_alloc _ _ _ (by rw [World.size_alloc]; omega)]; exact blk_new' ha o
theorem blk_new2 {w : World} {a : Nat} (ha : w.heap.size = a) (o o1 o2 : Obj) : (((w.alloc o).alloc o1).alloc o2).heap[a]? = some o := by
  rw [Below.heap_alloc _ _ _ (by rw [World.size_alloc, World.size_alloc]; omega)]; exact blk_new1 ha o o1
end Go.Proofs.Ytdbkbkopcnkgcaa
