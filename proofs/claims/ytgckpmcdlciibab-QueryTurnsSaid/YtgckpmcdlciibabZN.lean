/- The facts on the program's types and functions, off the translation, by program (wip/inst.py). -/
import Derived.Test.YtgckpmcdlciibabRows
import Derived.Test.YtgckpmcdlciibabZA
namespace Go.Proofs.Ytgckpmcdlciibab
theorem siz_of {P : Program} {t : TypeId} {z : Value} {k b : Nat} (h : (P.info? t).map (fun i => (i.zero, i.size, i.bytes)) = some (some z, k, b)) : Siz P t k := ⟨by
  cases hi : P.info? t with
  | none => rw [hi] at h; cases h
  | some i => rw [hi] at h; simp at h; exact ⟨i, rfl, h.2.1⟩⟩
theorem byt_of {P : Program} {t : TypeId} {z : Value} {k b : Nat} (h : (P.info? t).map (fun i => (i.zero, i.size, i.bytes)) = some (some z, k, b)) : Byt P t b := ⟨by
  cases hi : P.info? t with
  | none => rw [hi] at h; cases h
  | some i => rw [hi] at h; simp at h; exact ⟨i, rfl, h.2.2⟩⟩
theorem zer_of {P : Program} {t : TypeId} {z : Value} {k b : Nat} (h : (P.info? t).map (fun i => (i.zero, i.size, i.bytes)) = some (some z, k, b)) : Zer P t z := ⟨by
  cases hi : P.info? t with
  | none => rw [hi] at h; cases h
  | some i => rw [hi] at h; simp at h; exact ⟨i, rfl, h.1⟩⟩
-- 1: func()
theorem inf_3 : (Try.prog.info? 3).map (fun i => (i.zero, i.size, i.bytes)) = some (some (.int .i64 0), 1, 8) := by kernel_rfl
instance : Siz Try.prog 3 1 := siz_of inf_3
instance : Zer Try.prog 3 (.int .i64 0) := zer_of inf_3
instance : Sca Try.prog 3 := ⟨_, Try.underlying3, rfl⟩
theorem inf_5 : (Try.prog.info? 5).map (fun i => (i.zero, i.size, i.bytes)) = some (some (.int .u8 0), 1, 1) := by kernel_rfl
instance : Siz Try.prog 5 1 := siz_of inf_5
instance : Byt Try.prog 5 1 := byt_of inf_5
instance : Zer Try.prog 5 (.int .u8 0) := zer_of inf_5
theorem inf_9 : (Try.prog.info? 9).map (fun i => (i.zero, i.size, i.bytes)) = some (some (.string ⟨#[]⟩), 1, 16) := by kernel_rfl
instance : Siz Try.prog 9 1 := siz_of inf_9
instance : Sca Try.prog 9 := ⟨_, Try.underlying9, rfl⟩
instance : IsStr Try.prog 9 := ⟨Try.underlying9⟩
-- 19: maps.unhashableTypeError
instance : Sca Try.prog 26 := ⟨_, Try.underlying26, rfl⟩
theorem inf_35 : (Try.prog.info? 35).map (fun i => (i.zero, i.size, i.bytes)) = some (some (.slice none 0 0), 1, 24) := by kernel_rfl
instance : Siz Try.prog 35 1 := siz_of inf_35
instance : Sca Try.prog 35 := ⟨_, Try.underlying35, rfl⟩
instance : Sli Try.prog 35 102 := ⟨Try.underlying35⟩
-- 36: struct { Type string; Key string; Picks []api.Pick }
theorem inf_37 : (Try.prog.info? 37).map (fun i => (i.zero, i.size, i.bytes)) = some (some (.agg #[(.string ⟨#[]⟩), (.string ⟨#[]⟩), (.slice none 0 0)]), 3, 56) := by kernel_rfl
instance : Siz Try.prog 37 3 := siz_of inf_37
instance : Zer Try.prog 37 (.agg #[(.string ⟨#[]⟩), (.string ⟨#[]⟩), (.slice none 0 0)]) := zer_of inf_37
instance : Stc Try.prog 37 := ⟨_, Try.underlying37⟩
instance : Fo Try.prog 37 0 0 9 := ⟨_, _, Try.underlying37, rfl, rfl, rfl, by kernel_rfl, by kernel_rfl⟩
instance : Fo Try.prog 37 1 1 9 := ⟨_, _, Try.underlying37, rfl, rfl, rfl, by kernel_rfl, by kernel_rfl⟩
instance : Fo Try.prog 37 2 2 35 := ⟨_, _, Try.underlying37, rfl, rfl, rfl, by kernel_rfl, by kernel_rfl⟩
-- 39: func(api.Ask) (string, api.Errno)
theorem inf_41 : (Try.prog.info? 41).map (fun i => (i.zero, i.size, i.bytes)) = some (some (.agg #[(.int .i64 0), (.int .i64 0)]), 2, 16) := by kernel_rfl
instance : Siz Try.prog 41 2 := siz_of inf_41
instance : Zer Try.prog 41 (.agg #[(.int .i64 0), (.int .i64 0)]) := zer_of inf_41
instance : Stc Try.prog 41 := ⟨_, Try.underlying41⟩
instance : Fo Try.prog 41 0 0 26 := ⟨_, _, Try.underlying41, rfl, rfl, rfl, by kernel_rfl, by kernel_rfl⟩
instance : Fo Try.prog 41 1 1 3 := ⟨_, _, Try.underlying41, rfl, rfl, rfl, by kernel_rfl, by kernel_rfl⟩
-- 43: func(string) (api.Ask, api.Fault)
theorem inf_102 : (Try.prog.info? 102).map (fun i => (i.zero, i.size, i.bytes)) = some (some (.agg #[(.string ⟨#[]⟩), (.string ⟨#[]⟩), (.slice none 0 0)]), 3, 56) := by kernel_rfl
instance : Siz Try.prog 102 3 := siz_of inf_102
instance : Byt Try.prog 102 56 := byt_of inf_102
instance : Zer Try.prog 102 (.agg #[(.string ⟨#[]⟩), (.string ⟨#[]⟩), (.slice none 0 0)]) := zer_of inf_102
instance : Stc Try.prog 102 := ⟨_, Try.underlying102⟩
instance : Fo Try.prog 102 0 0 9 := ⟨_, _, Try.underlying102, rfl, rfl, rfl, by kernel_rfl, by kernel_rfl⟩
instance : Fo Try.prog 102 1 1 9 := ⟨_, _, Try.underlying102, rfl, rfl, rfl, by kernel_rfl, by kernel_rfl⟩
instance : Fo Try.prog 102 2 2 35 := ⟨_, _, Try.underlying102, rfl, rfl, rfl, by kernel_rfl, by kernel_rfl⟩
-- 103: func([]api.Service, api.Ask, int, string) bool
theorem inf_105 : (Try.prog.info? 105).map (fun i => (i.zero, i.size, i.bytes)) = some (some (.slice none 0 0), 1, 24) := by kernel_rfl
instance : Siz Try.prog 105 1 := siz_of inf_105
instance : Sca Try.prog 105 := ⟨_, Try.underlying105, rfl⟩
instance : Sli Try.prog 105 5 := ⟨Try.underlying105⟩
-- 106: func([]api.Service, api.Ask) ([]api.Got, []api.Request, api.Errno)
theorem inf_111 : (Try.prog.info? 111).map (fun i => (i.zero, i.size, i.bytes)) = some (some (.pointer none), 1, 8) := by kernel_rfl
instance : Siz Try.prog 111 1 := siz_of inf_111
instance : Sca Try.prog 111 := ⟨_, Try.underlying111, rfl⟩
instance : IsPtr Try.prog 111 113 := ⟨Try.underlying111⟩
-- 112: struct { addr *strings.Builder; buf []uint8 }
theorem inf_113 : (Try.prog.info? 113).map (fun i => (i.zero, i.size, i.bytes)) = some (some (.agg #[(.pointer none), (.slice none 0 0)]), 2, 32) := by kernel_rfl
instance : Siz Try.prog 113 2 := siz_of inf_113
instance : Zer Try.prog 113 (.agg #[(.pointer none), (.slice none 0 0)]) := zer_of inf_113
instance : Fo Try.prog 113 0 0 111 := ⟨_, _, Try.underlying113, rfl, rfl, rfl, by kernel_rfl, by kernel_rfl⟩
instance : Fo Try.prog 113 1 1 105 := ⟨_, _, Try.underlying113, rfl, rfl, rfl, by kernel_rfl, by kernel_rfl⟩
-- 115: error
theorem inf_122 : (Try.prog.info? 122).map (fun i => (i.zero, i.size, i.bytes)) = some (some (.agg #[(.int .i64 0), (.int .i64 0)]), 2, 16) := by kernel_rfl
instance : Siz Try.prog 122 2 := siz_of inf_122
instance : Zer Try.prog 122 (.agg #[(.int .i64 0), (.int .i64 0)]) := zer_of inf_122
instance : Fo Try.prog 122 0 0 41 := ⟨_, _, Try.underlying122, rfl, rfl, rfl, by kernel_rfl, by kernel_rfl⟩
-- 123: *query.reader
instance : Fo Try.prog 125 0 0 9 := ⟨_, _, Try.underlying125, rfl, rfl, rfl, by kernel_rfl, by kernel_rfl⟩
instance : Fo Try.prog 125 1 1 3 := ⟨_, _, Try.underlying125, rfl, rfl, rfl, by kernel_rfl, by kernel_rfl⟩
instance : Fo Try.prog 125 2 2 3 := ⟨_, _, Try.underlying125, rfl, rfl, rfl, by kernel_rfl, by kernel_rfl⟩
-- 126: func(uint8)
instance : Fun Try.prog 19 := ⟨_, Try.func19, by kernel_rfl, rfl⟩ -- stitchery/stitchlaw4.alive
instance : Fun Try.prog 20 := ⟨_, Try.func20, by kernel_rfl, rfl⟩ -- stitchery/query.Print
instance : Fun Try.prog 21 := ⟨_, Try.func21, by kernel_rfl, rfl⟩ -- stitchery/query.Parse
instance : Fun Try.prog 22 := ⟨_, Try.func22, by kernel_rfl, rfl⟩ -- stitchery/stitchref4.Same
instance : Fun Try.prog 23 := ⟨_, Try.func23, by kernel_rfl, rfl⟩ -- stitchery/query.Wrong
instance : Fun Try.prog 44 := ⟨_, Try.func44, by kernel_rfl, rfl⟩ -- stitchery/query.Called
instance : Fun Try.prog 45 := ⟨_, Try.func45, by kernel_rfl, rfl⟩ -- (*strings.Builder).WriteString
instance : Fun Try.prog 46 := ⟨_, Try.func46, by kernel_rfl, rfl⟩ -- stitchery/query.write
instance : Fun Try.prog 47 := ⟨_, Try.func47, by kernel_rfl, rfl⟩ -- (*strings.Builder).Len
instance : Fun Try.prog 48 := ⟨_, Try.func48, by kernel_rfl, rfl⟩ -- (*strings.Builder).String
instance : Fun Try.prog 50 := ⟨_, Try.func50, by kernel_rfl, rfl⟩ -- (*stitchery/query.reader).name
instance : Fun Try.prog 51 := ⟨_, Try.func51, by kernel_rfl, rfl⟩ -- (*stitchery/query.reader).must
instance : Fun Try.prog 52 := ⟨_, Try.func52, by kernel_rfl, rfl⟩ -- (*stitchery/query.reader).list
instance : Fun Try.prog 53 := ⟨_, Try.func53, by kernel_rfl, rfl⟩ -- (*stitchery/query.reader).blank
instance : Fun Try.prog 54 := ⟨_, Try.func54, by kernel_rfl, rfl⟩ -- (*stitchery/query.reader).fail
instance : Fun Try.prog 55 := ⟨_, Try.func55, by kernel_rfl, rfl⟩ -- stitchery/stitchref4.SamePicks
instance : Fun Try.prog 56 := ⟨_, Try.func56, by kernel_rfl, rfl⟩ -- stitchery/schema.Named
instance : Fun Try.prog 57 := ⟨_, Try.func57, by kernel_rfl, rfl⟩ -- stitchery/query.shape
instance : Fun Try.prog 86 := ⟨_, Try.func86, by kernel_rfl, rfl⟩ -- (*strings.Builder).copyCheck
instance : Fun Try.prog 87 := ⟨_, Try.func87, by kernel_rfl, rfl⟩ -- (*strings.Builder).WriteByte
instance : Fun Try.prog 88 := ⟨_, Try.func88, by kernel_rfl, rfl⟩ -- (*stitchery/query.reader).eat
instance : Fun Try.prog 89 := ⟨_, Try.func89, by kernel_rfl, rfl⟩ -- (*stitchery/query.reader).pick
theorem mixed : Try.prog.follows .mixedOrders = true := by kernel_rfl
end Go.Proofs.Ytgckpmcdlciibab
