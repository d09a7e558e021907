/- The facts on the program's types and functions, off the translation, by program (wip/inst.py). -/
import Derived.Test.YtgckpmcdlciibaaRows
import Derived.Test.YtgckpmcdlciibaaZA
namespace Go.Proofs.Ytgckpmcdlciibaa
theorem siz_of {P : Program} {t : TypeId} {z : Value} {k b : Nat} (h : (P.info? t).map (fun i => (i.zero, i.size, i.bytes)) = some (some z, k, b)) : Siz P t k := ⟨by
  cases hi : P.info? t with
  | none => rw [hi] at h; cases h
  | some i => rw [hi] at h; simp at h; exact ⟨i, rfl, h.2.1⟩⟩
theorem byt_of {P : Program} {t : TypeId} {z : Value} {k b : Nat} (h : (P.info? t).map (fun i => (i.zero, i.size, i.bytes)) = some (some z, k, b)) : Byt P t b := ⟨by
  cases hi : P.info? t with
  | none => rw [hi] at h; cases h
  | some i => rw [hi] at h; simp at h; exact ⟨i, rfl, h.2.2⟩⟩
theorem zer_of {P : Program} {t : TypeId} {z : Value} {k b : Nat} (h : (P.info? t).map (fun i => (i.zero, i.size, i.bytes)) = some (some z, k, b)) : Zer P t z := ⟨by
  cases hi : P.info? t with
  | none => rw [hi] at h; cases h
  | some i => rw [hi] at h; simp at h; exact ⟨i, rfl, h.1⟩⟩
-- 1: func()
theorem inf_3 : (Try.prog.info? 3).map (fun i => (i.zero, i.size, i.bytes)) = some (some (.int .i64 0), 1, 8) := by kernel_rfl
instance : Siz Try.prog 3 1 := siz_of inf_3
instance : Zer Try.prog 3 (.int .i64 0) := zer_of inf_3
instance : Sca Try.prog 3 := ⟨_, Try.underlying3, rfl⟩
theorem inf_5 : (Try.prog.info? 5).map (fun i => (i.zero, i.size, i.bytes)) = some (some (.int .u8 0), 1, 1) := by kernel_rfl
instance : Siz Try.prog 5 1 := siz_of inf_5
instance : Byt Try.prog 5 1 := byt_of inf_5
instance : Zer Try.prog 5 (.int .u8 0) := zer_of inf_5
instance : Sca Try.prog 5 := ⟨_, Try.underlying5, rfl⟩
instance : IsInt Try.prog 5 .u8 := ⟨Try.underlying5⟩
-- 9: string
theorem inf_9 : (Try.prog.info? 9).map (fun i => (i.zero, i.size, i.bytes)) = some (some (.string ⟨#[]⟩), 1, 16) := by kernel_rfl
instance : Siz Try.prog 9 1 := siz_of inf_9
instance : Sca Try.prog 9 := ⟨_, Try.underlying9, rfl⟩
instance : IsStr Try.prog 9 := ⟨Try.underlying9⟩
-- 19: maps.unhashableTypeError
instance : Sca Try.prog 30 := ⟨_, Try.underlying30, rfl⟩
theorem inf_39 : (Try.prog.info? 39).map (fun i => (i.zero, i.size, i.bytes)) = some (some (.slice none 0 0), 1, 24) := by kernel_rfl
instance : Siz Try.prog 39 1 := siz_of inf_39
instance : Sca Try.prog 39 := ⟨_, Try.underlying39, rfl⟩
instance : Sli Try.prog 39 93 := ⟨Try.underlying39⟩
-- 40: struct { Type string; Key string; Picks []api.Pick }
theorem inf_41 : (Try.prog.info? 41).map (fun i => (i.zero, i.size, i.bytes)) = some (some (.agg #[(.string ⟨#[]⟩), (.string ⟨#[]⟩), (.slice none 0 0)]), 3, 56) := by kernel_rfl
instance : Siz Try.prog 41 3 := siz_of inf_41
instance : Zer Try.prog 41 (.agg #[(.string ⟨#[]⟩), (.string ⟨#[]⟩), (.slice none 0 0)]) := zer_of inf_41
instance : Stc Try.prog 41 := ⟨_, Try.underlying41⟩
instance : Fo Try.prog 41 0 0 9 := ⟨_, _, Try.underlying41, rfl, rfl, rfl, by kernel_rfl, by kernel_rfl⟩
instance : Fo Try.prog 41 1 1 9 := ⟨_, _, Try.underlying41, rfl, rfl, rfl, by kernel_rfl, by kernel_rfl⟩
instance : Fo Try.prog 41 2 2 39 := ⟨_, _, Try.underlying41, rfl, rfl, rfl, by kernel_rfl, by kernel_rfl⟩
-- 42: func([]api.Part, api.Ask) api.Errno
theorem inf_51 : (Try.prog.info? 51).map (fun i => (i.zero, i.size, i.bytes)) = some (some (.agg #[(.int .i64 0), (.int .i64 0)]), 2, 16) := by kernel_rfl
instance : Siz Try.prog 51 2 := siz_of inf_51
instance : Zer Try.prog 51 (.agg #[(.int .i64 0), (.int .i64 0)]) := zer_of inf_51
instance : Stc Try.prog 51 := ⟨_, Try.underlying51⟩
instance : Fo Try.prog 51 0 0 30 := ⟨_, _, Try.underlying51, rfl, rfl, rfl, by kernel_rfl, by kernel_rfl⟩
theorem inf_93 : (Try.prog.info? 93).map (fun i => (i.zero, i.size, i.bytes)) = some (some (.agg #[(.string ⟨#[]⟩), (.string ⟨#[]⟩), (.slice none 0 0)]), 3, 56) := by kernel_rfl
instance : Siz Try.prog 93 3 := siz_of inf_93
instance : Byt Try.prog 93 56 := byt_of inf_93
instance : Zer Try.prog 93 (.agg #[(.string ⟨#[]⟩), (.string ⟨#[]⟩), (.slice none 0 0)]) := zer_of inf_93
instance : Stc Try.prog 93 := ⟨_, Try.underlying93⟩
instance : Fo Try.prog 93 0 0 9 := ⟨_, _, Try.underlying93, rfl, rfl, rfl, by kernel_rfl, by kernel_rfl⟩
instance : Fo Try.prog 93 1 1 9 := ⟨_, _, Try.underlying93, rfl, rfl, rfl, by kernel_rfl, by kernel_rfl⟩
instance : Fo Try.prog 93 2 2 39 := ⟨_, _, Try.underlying93, rfl, rfl, rfl, by kernel_rfl, by kernel_rfl⟩
-- 94: func(api.Pick) string
theorem inf_112 : (Try.prog.info? 112).map (fun i => (i.zero, i.size, i.bytes)) = some (some (.slice none 0 0), 1, 24) := by kernel_rfl
instance : Siz Try.prog 112 1 := siz_of inf_112
instance : Sca Try.prog 112 := ⟨_, Try.underlying112, rfl⟩
instance : Sli Try.prog 112 5 := ⟨Try.underlying112⟩
-- 113: func([]api.Type, func(api.Type) bool) int
theorem inf_133 : (Try.prog.info? 133).map (fun i => (i.zero, i.size, i.bytes)) = some (some (.agg #[(.int .i64 0), (.int .i64 0)]), 2, 16) := by kernel_rfl
instance : Siz Try.prog 133 2 := siz_of inf_133
instance : Zer Try.prog 133 (.agg #[(.int .i64 0), (.int .i64 0)]) := zer_of inf_133
instance : Fo Try.prog 133 0 0 51 := ⟨_, _, Try.underlying133, rfl, rfl, rfl, by kernel_rfl, by kernel_rfl⟩
-- 134: *query.reader
instance : Fo Try.prog 136 0 0 9 := ⟨_, _, Try.underlying136, rfl, rfl, rfl, by kernel_rfl, by kernel_rfl⟩
instance : Fo Try.prog 136 1 1 3 := ⟨_, _, Try.underlying136, rfl, rfl, rfl, by kernel_rfl, by kernel_rfl⟩
instance : Fo Try.prog 136 2 2 3 := ⟨_, _, Try.underlying136, rfl, rfl, rfl, by kernel_rfl, by kernel_rfl⟩
-- 137: func() string
instance : Fo Try.prog 143 0 0 9 := ⟨_, _, Try.underlying143, rfl, rfl, rfl, by kernel_rfl, by kernel_rfl⟩
instance : Fo Try.prog 143 1 1 3 := ⟨_, _, Try.underlying143, rfl, rfl, rfl, by kernel_rfl, by kernel_rfl⟩
instance : Fo Try.prog 143 2 2 3 := ⟨_, _, Try.underlying143, rfl, rfl, rfl, by kernel_rfl, by kernel_rfl⟩
instance : Fo Try.prog 143 3 3 51 := ⟨_, _, Try.underlying143, rfl, rfl, rfl, by kernel_rfl, by kernel_rfl⟩
-- 144: func([]api.Pick, []api.Pick) bool
theorem inf_149 : (Try.prog.info? 149).map (fun i => (i.zero, i.size, i.bytes)) = some (some (.pointer none), 1, 8) := by kernel_rfl
instance : Siz Try.prog 149 1 := siz_of inf_149
instance : Sca Try.prog 149 := ⟨_, Try.underlying149, rfl⟩
instance : IsPtr Try.prog 149 151 := ⟨Try.underlying149⟩
-- 150: struct { addr *strings.Builder; buf []uint8 }
theorem inf_151 : (Try.prog.info? 151).map (fun i => (i.zero, i.size, i.bytes)) = some (some (.agg #[(.pointer none), (.slice none 0 0)]), 2, 32) := by kernel_rfl
instance : Siz Try.prog 151 2 := siz_of inf_151
instance : Zer Try.prog 151 (.agg #[(.pointer none), (.slice none 0 0)]) := zer_of inf_151
instance : Fo Try.prog 151 0 0 149 := ⟨_, _, Try.underlying151, rfl, rfl, rfl, by kernel_rfl, by kernel_rfl⟩
instance : Fo Try.prog 151 1 1 112 := ⟨_, _, Try.underlying151, rfl, rfl, rfl, by kernel_rfl, by kernel_rfl⟩
-- 153: error
instance : Fun Try.prog 23 := ⟨_, Try.func23, by kernel_rfl, rfl⟩ -- stitchery/schema.Named
instance : Fun Try.prog 24 := ⟨_, Try.func24, by kernel_rfl, rfl⟩ -- stitchery/stitchref1.Named
instance : Fun Try.prog 42 := ⟨_, Try.func42, by kernel_rfl, rfl⟩ -- stitchery/query.Parse
instance : Fun Try.prog 43 := ⟨_, Try.func43, by kernel_rfl, rfl⟩ -- stitchery/stitchref4.Parse
instance : Fun Try.prog 44 := ⟨_, Try.func44, by kernel_rfl, rfl⟩ -- stitchery/stitchref4.Same
instance : Fun Try.prog 45 := ⟨_, Try.func45, by kernel_rfl, rfl⟩ -- stitchery/query.Wrong
instance : Fun Try.prog 46 := ⟨_, Try.func46, by kernel_rfl, rfl⟩ -- stitchery/stitchref4.Wrong
instance : Fun Try.prog 47 := ⟨_, Try.func47, by kernel_rfl, rfl⟩ -- stitchery/query.Print
instance : Fun Try.prog 48 := ⟨_, Try.func48, by kernel_rfl, rfl⟩ -- stitchery/stitchref4.Print
instance : Fun Try.prog 49 := ⟨_, Try.func49, by kernel_rfl, rfl⟩ -- stitchery/query.Called
instance : Fun Try.prog 50 := ⟨_, Try.func50, by kernel_rfl, rfl⟩ -- stitchery/stitchref4.Called
instance : Fun Try.prog 76 := ⟨_, Try.func76, by kernel_rfl, rfl⟩ -- (*stitchery/query.reader).name
instance : Fun Try.prog 77 := ⟨_, Try.func77, by kernel_rfl, rfl⟩ -- (*stitchery/query.reader).must
instance : Fun Try.prog 78 := ⟨_, Try.func78, by kernel_rfl, rfl⟩ -- (*stitchery/query.reader).list
instance : Fun Try.prog 79 := ⟨_, Try.func79, by kernel_rfl, rfl⟩ -- (*stitchery/query.reader).blank
instance : Fun Try.prog 80 := ⟨_, Try.func80, by kernel_rfl, rfl⟩ -- (*stitchery/query.reader).fail
instance : Fun Try.prog 81 := ⟨_, Try.func81, by kernel_rfl, rfl⟩ -- (*stitchery/stitchref4.Walk).name
instance : Fun Try.prog 82 := ⟨_, Try.func82, by kernel_rfl, rfl⟩ -- (*stitchery/stitchref4.Walk).need
instance : Fun Try.prog 83 := ⟨_, Try.func83, by kernel_rfl, rfl⟩ -- (*stitchery/stitchref4.Walk).ok
instance : Fun Try.prog 84 := ⟨_, Try.func84, by kernel_rfl, rfl⟩ -- (*stitchery/stitchref4.Walk).List
instance : Fun Try.prog 85 := ⟨_, Try.func85, by kernel_rfl, rfl⟩ -- (*stitchery/stitchref4.Walk).skip
instance : Fun Try.prog 86 := ⟨_, Try.func86, by kernel_rfl, rfl⟩ -- (*stitchery/stitchref4.Walk).stop
instance : Fun Try.prog 87 := ⟨_, Try.func87, by kernel_rfl, rfl⟩ -- stitchery/stitchref4.SamePicks
instance : Fun Try.prog 88 := ⟨_, Try.func88, by kernel_rfl, rfl⟩ -- stitchery/query.shape
instance : Fun Try.prog 89 := ⟨_, Try.func89, by kernel_rfl, rfl⟩ -- stitchery/stitchref4.Shape
instance : Fun Try.prog 90 := ⟨_, Try.func90, by kernel_rfl, rfl⟩ -- (*strings.Builder).WriteString
instance : Fun Try.prog 91 := ⟨_, Try.func91, by kernel_rfl, rfl⟩ -- stitchery/query.write
instance : Fun Try.prog 92 := ⟨_, Try.func92, by kernel_rfl, rfl⟩ -- (*strings.Builder).Len
instance : Fun Try.prog 93 := ⟨_, Try.func93, by kernel_rfl, rfl⟩ -- (*strings.Builder).String
instance : Fun Try.prog 94 := ⟨_, Try.func94, by kernel_rfl, rfl⟩ -- stitchery/stitchref4.Text
instance : Fun Try.prog 108 := ⟨_, Try.func108, by kernel_rfl, rfl⟩ -- (*stitchery/query.reader).eat
instance : Fun Try.prog 109 := ⟨_, Try.func109, by kernel_rfl, rfl⟩ -- (*stitchery/query.reader).pick
instance : Fun Try.prog 110 := ⟨_, Try.func110, by kernel_rfl, rfl⟩ -- (*stitchery/stitchref4.Walk).on
instance : Fun Try.prog 111 := ⟨_, Try.func111, by kernel_rfl, rfl⟩ -- (*strings.Builder).copyCheck
instance : Fun Try.prog 112 := ⟨_, Try.func112, by kernel_rfl, rfl⟩ -- (*strings.Builder).WriteByte
theorem mixed : Try.prog.follows .mixedOrders = true := by kernel_rfl
end Go.Proofs.Ytgckpmcdlciibaa
