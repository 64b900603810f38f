/- lex: the keys and the signs as they stand in memory. -/
import Derived.Test.YtfoelgkkoopheaaDoorLexC
import Derived.Test.YtfoelgkkoopheaaDoorRowS
namespace Go.Proofs.YtfoelgkkoopheaaDoor
open Go.RowKit

def keysA : Array Value := #[.string ⟨#[97, 115, 115, 101, 114, 116]⟩, .string ⟨#[98, 111, 111, 108]⟩, .string ⟨#[101, 108, 115, 101]⟩, .string ⟨#[102, 97, 108, 115, 101]⟩, .string ⟨#[102, 117, 110]⟩, .string ⟨#[105, 102]⟩, .string ⟨#[105, 109, 112, 111, 114, 116]⟩, .string ⟨#[105, 110]⟩, .string ⟨#[105, 110, 116]⟩, .string ⟨#[108, 101, 116]⟩, .string ⟨#[110, 111, 116]⟩, .string ⟨#[112, 117, 98]⟩, .string ⟨#[114, 101, 115]⟩, .string ⟨#[116, 104, 101, 110]⟩, .string ⟨#[116, 114, 117, 101]⟩]
def keysZ : Array Value := #[.string ⟨#[]⟩, .string ⟨#[]⟩, .string ⟨#[]⟩, .string ⟨#[]⟩, .string ⟨#[]⟩, .string ⟨#[]⟩, .string ⟨#[]⟩, .string ⟨#[]⟩, .string ⟨#[]⟩, .string ⟨#[]⟩, .string ⟨#[]⟩, .string ⟨#[]⟩, .string ⟨#[]⟩, .string ⟨#[]⟩, .string ⟨#[]⟩]
theorem keysSize : (Tryd.prog.info? 109).map (·.size) = some keysA.size := by kernel_rfl
theorem keys_build (w : World) : (Instr.build 109 #[(0, .string ⟨#[97, 115, 115, 101, 114, 116]⟩), (1, .string ⟨#[98, 111, 111, 108]⟩), (2, .string ⟨#[101, 108, 115, 101]⟩), (3, .string ⟨#[102, 97, 108, 115, 101]⟩), (4, .string ⟨#[102, 117, 110]⟩), (5, .string ⟨#[105, 102]⟩), (6, .string ⟨#[105, 109, 112, 111, 114, 116]⟩), (7, .string ⟨#[105, 110]⟩), (8, .string ⟨#[105, 110, 116]⟩), (9, .string ⟨#[108, 101, 116]⟩), (10, .string ⟨#[110, 111, 116]⟩), (11, .string ⟨#[112, 117, 98]⟩), (12, .string ⟨#[114, 101, 115]⟩), (13, .string ⟨#[116, 104, 101, 110]⟩), (14, .string ⟨#[116, 114, 117, 101]⟩)]).run Tryd.prog w = .ok (.agg keysA) w := by kernel_rfl
theorem keys_alloc (w : World) : (Instr.alloc 109 true (.tuple #[])).run Tryd.prog w = .ok (.pointer (some ⟨w.heap.size, 0, none⟩)) (w.alloc (.cells keysZ 109)) := by kernel_rfl
theorem keysZsize : keysZ.size = keysA.size := by kernel_rfl
theorem keys_one : ∀ u ∈ keysA.toList, u.oneCell' = true := by
  have h : keysA.toList.all (fun u => u.oneCell') = true := by rfl
  intro u hu
  exact List.all_eq_true.1 h u hu
set_option maxRecDepth 100000 in
theorem keys_calls (w : World) : Calls Tryd.prog 65 #[] w fun e w' => e = .returned (.agg keysA) ∧ w.alloc (.cells keysA 109) = w' := by
  have hb := keys_build
  have ha := keys_alloc
  go_enter Tryd.func65, Tryd.ntmps65
  go_wp2_with (refine wpList_store_new rfl 109 _ _ rfl 109 keysZ keysA rfl rfl keysZsize keysSize keys_one ?_)
  exact bodyPost_ret (v := _) (results_cell_row rfl _ _ w.heap.size _ _ _ _ rfl (heap_alloc_new _ _) Tryd.underlying109 rfl keysSize) rfl ⟨rfl, rfl⟩

def signsA : Array Value := #[.string ⟨#[60, 62]⟩, .string ⟨#[60, 61]⟩, .string ⟨#[62, 61]⟩, .string ⟨#[38, 38]⟩, .string ⟨#[124, 124]⟩, .string ⟨#[61, 62]⟩, .string ⟨#[40]⟩, .string ⟨#[41]⟩, .string ⟨#[123]⟩, .string ⟨#[125]⟩, .string ⟨#[44]⟩, .string ⟨#[58]⟩, .string ⟨#[59]⟩, .string ⟨#[46]⟩, .string ⟨#[43]⟩, .string ⟨#[45]⟩, .string ⟨#[42]⟩, .string ⟨#[47]⟩, .string ⟨#[37]⟩, .string ⟨#[61]⟩, .string ⟨#[60]⟩, .string ⟨#[62]⟩]
def signsZ : Array Value := #[.string ⟨#[]⟩, .string ⟨#[]⟩, .string ⟨#[]⟩, .string ⟨#[]⟩, .string ⟨#[]⟩, .string ⟨#[]⟩, .string ⟨#[]⟩, .string ⟨#[]⟩, .string ⟨#[]⟩, .string ⟨#[]⟩, .string ⟨#[]⟩, .string ⟨#[]⟩, .string ⟨#[]⟩, .string ⟨#[]⟩, .string ⟨#[]⟩, .string ⟨#[]⟩, .string ⟨#[]⟩, .string ⟨#[]⟩, .string ⟨#[]⟩, .string ⟨#[]⟩, .string ⟨#[]⟩, .string ⟨#[]⟩]
theorem signsSize : (Tryd.prog.info? 89).map (·.size) = some signsA.size := by kernel_rfl
theorem signs_build (w : World) : (Instr.build 89 #[(0, .string ⟨#[60, 62]⟩), (1, .string ⟨#[60, 61]⟩), (2, .string ⟨#[62, 61]⟩), (3, .string ⟨#[38, 38]⟩), (4, .string ⟨#[124, 124]⟩), (5, .string ⟨#[61, 62]⟩), (6, .string ⟨#[40]⟩), (7, .string ⟨#[41]⟩), (8, .string ⟨#[123]⟩), (9, .string ⟨#[125]⟩), (10, .string ⟨#[44]⟩), (11, .string ⟨#[58]⟩), (12, .string ⟨#[59]⟩), (13, .string ⟨#[46]⟩), (14, .string ⟨#[43]⟩), (15, .string ⟨#[45]⟩), (16, .string ⟨#[42]⟩), (17, .string ⟨#[47]⟩), (18, .string ⟨#[37]⟩), (19, .string ⟨#[61]⟩), (20, .string ⟨#[60]⟩), (21, .string ⟨#[62]⟩)]).run Tryd.prog w = .ok (.agg signsA) w := by kernel_rfl
theorem signs_alloc (w : World) : (Instr.alloc 89 true (.tuple #[])).run Tryd.prog w = .ok (.pointer (some ⟨w.heap.size, 0, none⟩)) (w.alloc (.cells signsZ 89)) := by kernel_rfl
theorem signsZsize : signsZ.size = signsA.size := by kernel_rfl
theorem signs_one : ∀ u ∈ signsA.toList, u.oneCell' = true := by
  have h : signsA.toList.all (fun u => u.oneCell') = true := by rfl
  intro u hu
  exact List.all_eq_true.1 h u hu
set_option maxRecDepth 100000 in
theorem signs_calls (w : World) : Calls Tryd.prog 50 #[] w fun e w' => e = .returned (.agg signsA) ∧ w.alloc (.cells signsA 89) = w' := by
  have hb := signs_build
  have ha := signs_alloc
  go_enter Tryd.func50, Tryd.ntmps50
  go_wp2_with (refine wpList_store_new rfl 89 _ _ rfl 89 signsZ signsA rfl rfl signsZsize signsSize signs_one ?_)
  exact bodyPost_ret (v := _) (results_cell_row rfl _ _ w.heap.size _ _ _ _ rfl (heap_alloc_new _ _) Tryd.underlying89 rfl signsSize) rfl ⟨rfl, rfl⟩
end Go.Proofs.YtfoelgkkoopheaaDoor
