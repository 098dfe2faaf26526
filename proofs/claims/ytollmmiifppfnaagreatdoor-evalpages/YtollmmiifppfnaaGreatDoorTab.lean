/- A part of the proof: the abstract machine and what it shows of the program. -/
import Derived.Test.YtollmmiifppfnaaGreatDoorMachE
import Derived.Test.YtollmmiifppfnaaGreatDoorProg

/- The tables of the abstract machine for this claim: printed by a program of mine (mktab.py) from the loaded functions. -/
set_option maxRecDepth 100000
namespace Go.Proofs.Tryz.Am
open Go Go.Am Go.Proofs
def ti3 : TI := { desc := .int .i64, size := 1, bytes := 8, zero := [.int .i64 0] }
theorem tk3 : TyOK Tryz.prog 3 ti3 := tyOK_of Tryz.underlying3 Tryz.type3 rfl (by kernel_rfl) (noFlat rfl)
def ti4 : TI := { desc := .bool, size := 1, bytes := 1, zero := [.bool false] }
theorem tk4 : TyOK Tryz.prog 4 ti4 := tyOK_of Tryz.underlying4 Tryz.type4 rfl (by kernel_rfl) (noFlat rfl)
def ti5 : TI := { desc := .int .u8, size := 1, bytes := 1, zero := [.int .u8 0] }
theorem tk5 : TyOK Tryz.prog 5 ti5 := tyOK_of Tryz.underlying5 Tryz.type5 rfl (by kernel_rfl) (noFlat rfl)
def ti9 : TI := { desc := .string, size := 1, bytes := 16, zero := [.str []] }
theorem tk9 : TyOK Tryz.prog 9 ti9 := tyOK_of Tryz.underlying9 Tryz.type9 rfl (by kernel_rfl) (noFlat rfl)
def ti12 : TI := { desc := .int .u64, size := 1, bytes := 8, zero := [.int .u64 0] }
theorem tk12 : TyOK Tryz.prog 12 ti12 := tyOK_of Tryz.underlying12 Tryz.type12 rfl (by kernel_rfl) (noFlat rfl)
def ti17 : TI := { desc := .pointer 522, size := 1, bytes := 8, zero := [.nilptr] }
theorem tk17 : TyOK Tryz.prog 17 ti17 := tyOK_of Tryz.underlying17 Tryz.type17 rfl (by kernel_rfl) (noFlat rfl)
def ti20 : TI := { desc := .interface #[], size := 1, bytes := 16, zero := [.nilif] }
theorem tk20 : TyOK Tryz.prog 20 ti20 := tyOK_of Tryz.underlying20 Tryz.type20 rfl (by kernel_rfl) (noFlat rfl)
def ti21 : TI := { desc := .int .i32, size := 1, bytes := 4, zero := [.int .i32 0] }
theorem tk21 : TyOK Tryz.prog 21 ti21 := tyOK_of Tryz.underlying21 Tryz.type21 rfl (by kernel_rfl) (noFlat rfl)
def ti22 : TI := { desc := .slice 40, size := 1, bytes := 24, zero := [.nil0] }
theorem tk22 : TyOK Tryz.prog 22 ti22 := tyOK_of Tryz.underlying22 Tryz.type22 rfl (by kernel_rfl) (noFlat rfl)
def ti25 : TI := { desc := .struct #[{ name := "Total", type := 3, offset := 0, embedded := false, tag := "", pkgPath := "", byteOffset := 0 }, { name := "Results", type := 22, offset := 1, embedded := false, tag := "", pkgPath := "", byteOffset := 8 }], size := 2, bytes := 32, zero := [.int .i64 0, .nil0] }
theorem tk25 : TyOK Tryz.prog 25 ti25 := tyOK_of Tryz.underlying25 Tryz.type25 rfl (by kernel_rfl) (noFlat rfl)
def ti29 : TI := { desc := .slice 9, size := 1, bytes := 24, zero := [.nil0] }
theorem tk29 : TyOK Tryz.prog 29 ti29 := tyOK_of Tryz.underlying29 Tryz.type29 rfl (by kernel_rfl) (noFlat rfl)
def ti31 : TI := { desc := .struct #[{ name := "ID", type := 3, offset := 0, embedded := false, tag := "", pkgPath := "", byteOffset := 0 }, { name := "Repo", type := 9, offset := 1, embedded := false, tag := "", pkgPath := "", byteOffset := 8 }, { name := "Path", type := 9, offset := 2, embedded := false, tag := "", pkgPath := "", byteOffset := 24 }, { name := "Text", type := 9, offset := 3, embedded := false, tag := "", pkgPath := "", byteOffset := 40 }, { name := "On", type := 29, offset := 4, embedded := false, tag := "", pkgPath := "", byteOffset := 56 }], size := 5, bytes := 80, zero := [.int .i64 0, .str [], .str [], .str [], .nil0] }
theorem tk31 : TyOK Tryz.prog 31 ti31 := tyOK_of Tryz.underlying31 Tryz.type31 rfl (by kernel_rfl) (noFlat rfl)
def ti32 : TI := { desc := .slice 31, size := 1, bytes := 24, zero := [.nil0] }
theorem tk32 : TyOK Tryz.prog 32 ti32 := tyOK_of Tryz.underlying32 Tryz.type32 rfl (by kernel_rfl) (noFlat rfl)
def ti33 : TI := { desc := .slice 35, size := 1, bytes := 24, zero := [.nil0] }
theorem tk33 : TyOK Tryz.prog 33 ti33 := tyOK_of Tryz.underlying33 Tryz.type33 rfl (by kernel_rfl) (noFlat rfl)
def ti35 : TI := { desc := .struct #[{ name := "Kind", type := 3, offset := 0, embedded := false, tag := "", pkgPath := "", byteOffset := 0 }, { name := "Text", type := 9, offset := 1, embedded := false, tag := "", pkgPath := "", byteOffset := 8 }, { name := "Fold", type := 4, offset := 2, embedded := false, tag := "", pkgPath := "", byteOffset := 24 }, { name := "A", type := 3, offset := 3, embedded := false, tag := "", pkgPath := "", byteOffset := 32 }, { name := "B", type := 3, offset := 4, embedded := false, tag := "", pkgPath := "", byteOffset := 40 }, { name := "Subs", type := 33, offset := 5, embedded := false, tag := "", pkgPath := "", byteOffset := 48 }], size := 6, bytes := 72, zero := [.int .i64 0, .str [], .bool false, .int .i64 0, .int .i64 0, .nil0] }
theorem tk35 : TyOK Tryz.prog 35 ti35 := tyOK_of Tryz.underlying35 Tryz.type35 rfl (by kernel_rfl) (noFlat rfl)
def ti37 : TI := { desc := .struct #[{ name := "At", type := 3, offset := 0, embedded := false, tag := "", pkgPath := "", byteOffset := 0 }, { name := "End", type := 3, offset := 1, embedded := false, tag := "", pkgPath := "", byteOffset := 8 }], size := 2, bytes := 16, zero := [.int .i64 0, .int .i64 0], flat := true }
theorem flat37 : FlatOK Tryz.prog 37 ti37.size ti37.zero := flatOK_of Tryz.underlying37 (by kernel_rfl) (by kernel_rfl) (by kernel_rfl)
theorem tk37 : TyOK Tryz.prog 37 ti37 := tyOK_of Tryz.underlying37 Tryz.type37 rfl (by kernel_rfl) (fun _ => flat37)
def ti38 : TI := { desc := .slice 37, size := 1, bytes := 24, zero := [.nil0] }
theorem tk38 : TyOK Tryz.prog 38 ti38 := tyOK_of Tryz.underlying38 Tryz.type38 rfl (by kernel_rfl) (noFlat rfl)
def ti40 : TI := { desc := .struct #[{ name := "Doc", type := 3, offset := 0, embedded := false, tag := "", pkgPath := "", byteOffset := 0 }, { name := "Score", type := 3, offset := 1, embedded := false, tag := "", pkgPath := "", byteOffset := 8 }, { name := "Spans", type := 38, offset := 2, embedded := false, tag := "", pkgPath := "", byteOffset := 16 }], size := 3, bytes := 40, zero := [.int .i64 0, .int .i64 0, .nil0] }
theorem tk40 : TyOK Tryz.prog 40 ti40 := tyOK_of Tryz.underlying40 Tryz.type40 rfl (by kernel_rfl) (noFlat rfl)
def ti42 : TI := { desc := .slice 161, size := 1, bytes := 24, zero := [.nil0] }
theorem tk42 : TyOK Tryz.prog 42 ti42 := tyOK_of Tryz.underlying42 Tryz.type42 rfl (by kernel_rfl) (noFlat rfl)
def ti43 : TI := { desc := .slice 248, size := 1, bytes := 24, zero := [.nil0] }
theorem tk43 : TyOK Tryz.prog 43 ti43 := tyOK_of Tryz.underlying43 Tryz.type43 rfl (by kernel_rfl) (noFlat rfl)
def ti44 : TI := { desc := .slice 250, size := 1, bytes := 24, zero := [.nil0] }
theorem tk44 : TyOK Tryz.prog 44 ti44 := tyOK_of Tryz.underlying44 Tryz.type44 rfl (by kernel_rfl) (noFlat rfl)
def ti45 : TI := { desc := .slice 365, size := 1, bytes := 24, zero := [.nil0] }
theorem tk45 : TyOK Tryz.prog 45 ti45 := tyOK_of Tryz.underlying45 Tryz.type45 rfl (by kernel_rfl) (noFlat rfl)
def ti47 : TI := { desc := .struct #[{ name := "Decls", type := 43, offset := 0, embedded := false, tag := "", pkgPath := "", byteOffset := 0 }, { name := "Refs", type := 44, offset := 1, embedded := false, tag := "", pkgPath := "", byteOffset := 24 }, { name := "Overs", type := 45, offset := 2, embedded := false, tag := "", pkgPath := "", byteOffset := 48 }, { name := "Calls", type := 45, offset := 3, embedded := false, tag := "", pkgPath := "", byteOffset := 72 }], size := 4, bytes := 96, zero := [.nil0, .nil0, .nil0, .nil0] }
theorem tk47 : TyOK Tryz.prog 47 ti47 := tyOK_of Tryz.underlying47 Tryz.type47 rfl (by kernel_rfl) (noFlat rfl)
def ti49 : TI := { desc := .struct #[{ name := "Repos", type := 42, offset := 0, embedded := false, tag := "", pkgPath := "", byteOffset := 0 }, { name := "Graph", type := 47, offset := 1, embedded := false, tag := "", pkgPath := "", byteOffset := 24 }], size := 5, bytes := 120, zero := [.nil0, .nil0, .nil0, .nil0, .nil0] }
theorem tk49 : TyOK Tryz.prog 49 ti49 := tyOK_of Tryz.underlying49 Tryz.type49 rfl (by kernel_rfl) (noFlat rfl)
def ti50 : TI := { desc := .slice 74, size := 1, bytes := 24, zero := [.nil0] }
theorem tk50 : TyOK Tryz.prog 50 ti50 := tyOK_of Tryz.underlying50 Tryz.type50 rfl (by kernel_rfl) (noFlat rfl)
def ti52 : TI := { desc := .struct #[{ name := "Docs", type := 32, offset := 0, embedded := false, tag := "", pkgPath := "", byteOffset := 0 }, { name := "Grams", type := 50, offset := 1, embedded := false, tag := "", pkgPath := "", byteOffset := 24 }], size := 2, bytes := 48, zero := [.nil0, .nil0] }
theorem tk52 : TyOK Tryz.prog 52 ti52 := tyOK_of Tryz.underlying52 Tryz.type52 rfl (by kernel_rfl) (noFlat rfl)
def ti53 : TI := { desc := .int .i64, size := 1, bytes := 8, zero := [.int .i64 0] }
theorem tk53 : TyOK Tryz.prog 53 ti53 := tyOK_of Tryz.underlying53 Tryz.type53 rfl (by kernel_rfl) (noFlat rfl)
def ti57 : TI := { desc := .slice 52, size := 1, bytes := 24, zero := [.nil0] }
theorem tk57 : TyOK Tryz.prog 57 ti57 := tyOK_of Tryz.underlying57 Tryz.type57 rfl (by kernel_rfl) (noFlat rfl)
def ti58 : TI := { desc := .slice 3, size := 1, bytes := 24, zero := [.nil0] }
theorem tk58 : TyOK Tryz.prog 58 ti58 := tyOK_of Tryz.underlying58 Tryz.type58 rfl (by kernel_rfl) (noFlat rfl)
def ti62 : TI := { desc := .func #[3] #[4] false, size := 1, bytes := 8, zero := [.nilfn] }
theorem tk62 : TyOK Tryz.prog 62 ti62 := tyOK_of Tryz.underlying62 Tryz.type62 rfl (by kernel_rfl) (noFlat rfl)
def ti64 : TI := { desc := .map 3 69, size := 1, bytes := 8, zero := [.nilmap] }
theorem tk64 : TyOK Tryz.prog 64 ti64 := tyOK_of Tryz.underlying64 Tryz.type64 rfl (by kernel_rfl) (noFlat rfl)
def ti65 : TI := { desc := .slice 68, size := 1, bytes := 24, zero := [.nil0] }
theorem tk65 : TyOK Tryz.prog 65 ti65 := tyOK_of Tryz.underlying65 Tryz.type65 rfl (by kernel_rfl) (noFlat rfl)
def ti68 : TI := { desc := .struct #[{ name := "Code", type := 3, offset := 0, embedded := false, tag := "", pkgPath := "", byteOffset := 0 }, { name := "At", type := 58, offset := 1, embedded := false, tag := "", pkgPath := "", byteOffset := 8 }], size := 2, bytes := 32, zero := [.int .i64 0, .nil0] }
theorem tk68 : TyOK Tryz.prog 68 ti68 := tyOK_of Tryz.underlying68 Tryz.type68 rfl (by kernel_rfl) (noFlat rfl)
def ti69 : TI := { desc := .slice 71, size := 1, bytes := 24, zero := [.nil0] }
theorem tk69 : TyOK Tryz.prog 69 ti69 := tyOK_of Tryz.underlying69 Tryz.type69 rfl (by kernel_rfl) (noFlat rfl)
def ti71 : TI := { desc := .struct #[{ name := "Doc", type := 3, offset := 0, embedded := false, tag := "", pkgPath := "", byteOffset := 0 }, { name := "At", type := 58, offset := 1, embedded := false, tag := "", pkgPath := "", byteOffset := 8 }], size := 2, bytes := 32, zero := [.int .i64 0, .nil0] }
theorem tk71 : TyOK Tryz.prog 71 ti71 := tyOK_of Tryz.underlying71 Tryz.type71 rfl (by kernel_rfl) (noFlat rfl)
def ti74 : TI := { desc := .struct #[{ name := "Code", type := 3, offset := 0, embedded := false, tag := "", pkgPath := "", byteOffset := 0 }, { name := "Docs", type := 69, offset := 1, embedded := false, tag := "", pkgPath := "", byteOffset := 8 }], size := 2, bytes := 32, zero := [.int .i64 0, .nil0] }
theorem tk74 : TyOK Tryz.prog 74 ti74 := tyOK_of Tryz.underlying74 Tryz.type74 rfl (by kernel_rfl) (noFlat rfl)
def ti76 : TI := { desc := .func #[74, 74] #[3] false, size := 1, bytes := 8, zero := [.nilfn] }
theorem tk76 : TyOK Tryz.prog 76 ti76 := tyOK_of Tryz.underlying76 Tryz.type76 rfl (by kernel_rfl) (noFlat rfl)
def ti81 : TI := { desc := .func #[40, 40] #[3] false, size := 1, bytes := 8, zero := [.nilfn] }
theorem tk81 : TyOK Tryz.prog 81 ti81 := tyOK_of Tryz.underlying81 Tryz.type81 rfl (by kernel_rfl) (noFlat rfl)
def ti86 : TI := { desc := .map 89 4, size := 1, bytes := 8, zero := [.nilmap] }
theorem tk86 : TyOK Tryz.prog 86 ti86 := tyOK_of Tryz.underlying86 Tryz.type86 rfl (by kernel_rfl) (noFlat rfl)
def ti89 : TI := { desc := .struct #[{ name := "Repo", type := 9, offset := 0, embedded := false, tag := "", pkgPath := "", byteOffset := 0 }, { name := "Path", type := 9, offset := 1, embedded := false, tag := "", pkgPath := "", byteOffset := 16 }, { name := "Text", type := 9, offset := 2, embedded := false, tag := "", pkgPath := "", byteOffset := 32 }], size := 3, bytes := 48, zero := [.str [], .str [], .str []], flat := true }
theorem flat89 : FlatOK Tryz.prog 89 ti89.size ti89.zero := flatOK_of Tryz.underlying89 (by kernel_rfl) (by kernel_rfl) (by kernel_rfl)
theorem tk89 : TyOK Tryz.prog 89 ti89 := tyOK_of Tryz.underlying89 Tryz.type89 rfl (by kernel_rfl) (fun _ => flat89)
def ti91 : TI := { desc := .map 3 58, size := 1, bytes := 8, zero := [.nilmap] }
theorem tk91 : TyOK Tryz.prog 91 ti91 := tyOK_of Tryz.underlying91 Tryz.type91 rfl (by kernel_rfl) (noFlat rfl)
def ti94 : TI := { desc := .func #[68, 68] #[3] false, size := 1, bytes := 8, zero := [.nilfn] }
theorem tk94 : TyOK Tryz.prog 94 ti94 := tyOK_of Tryz.underlying94 Tryz.type94 rfl (by kernel_rfl) (noFlat rfl)
def ti97 : TI := { desc := .int .u64, size := 1, bytes := 8, zero := [.int .u64 0] }
theorem tk97 : TyOK Tryz.prog 97 ti97 := tyOK_of Tryz.underlying97 Tryz.type97 rfl (by kernel_rfl) (noFlat rfl)
def ti108 : TI := { desc := .func #[35] #[4] false, size := 1, bytes := 8, zero := [.nilfn] }
theorem tk108 : TyOK Tryz.prog 108 ti108 := tyOK_of Tryz.underlying108 Tryz.type108 rfl (by kernel_rfl) (noFlat rfl)
def ti115 : TI := { desc := .func #[35] #[] false, size := 1, bytes := 8, zero := [.nilfn] }
theorem tk115 : TyOK Tryz.prog 115 ti115 := tyOK_of Tryz.underlying115 Tryz.type115 rfl (by kernel_rfl) (noFlat rfl)
def ti117 : TI := { desc := .func #[3, 3] #[4] false, size := 1, bytes := 8, zero := [.nilfn] }
theorem tk117 : TyOK Tryz.prog 117 ti117 := tyOK_of Tryz.underlying117 Tryz.type117 rfl (by kernel_rfl) (noFlat rfl)
def ti119 : TI := { desc := .func #[9] #[4] false, size := 1, bytes := 8, zero := [.nilfn] }
theorem tk119 : TyOK Tryz.prog 119 ti119 := tyOK_of Tryz.underlying119 Tryz.type119 rfl (by kernel_rfl) (noFlat rfl)
def ti123 : TI := { desc := .int .i64, size := 1, bytes := 8, zero := [.int .i64 0] }
theorem tk123 : TyOK Tryz.prog 123 ti123 := tyOK_of Tryz.underlying123 Tryz.type123 rfl (by kernel_rfl) (noFlat rfl)
def ti131 : TI := { desc := .int .u32, size := 1, bytes := 4, zero := [.int .u32 0] }
theorem tk131 : TyOK Tryz.prog 131 ti131 := tyOK_of Tryz.underlying131 Tryz.type131 rfl (by kernel_rfl) (noFlat rfl)
def ti133 : TI := { desc := .int .u64, size := 1, bytes := 8, zero := [.int .u64 0] }
theorem tk133 : TyOK Tryz.prog 133 ti133 := tyOK_of Tryz.underlying133 Tryz.type133 rfl (by kernel_rfl) (noFlat rfl)
def ti138 : TI := { desc := .slice 140, size := 1, bytes := 24, zero := [.nil0] }
theorem tk138 : TyOK Tryz.prog 138 ti138 := tyOK_of Tryz.underlying138 Tryz.type138 rfl (by kernel_rfl) (noFlat rfl)
def ti140 : TI := { desc := .struct #[{ name := "Kind", type := 3, offset := 0, embedded := false, tag := "", pkgPath := "", byteOffset := 0 }, { name := "Gram", type := 3, offset := 1, embedded := false, tag := "", pkgPath := "", byteOffset := 8 }, { name := "Subs", type := 138, offset := 2, embedded := false, tag := "", pkgPath := "", byteOffset := 16 }], size := 3, bytes := 40, zero := [.int .i64 0, .int .i64 0, .nil0] }
theorem tk140 : TyOK Tryz.prog 140 ti140 := tyOK_of Tryz.underlying140 Tryz.type140 rfl (by kernel_rfl) (noFlat rfl)
def ti141 : TI := { desc := .func #[35] #[140] false, size := 1, bytes := 8, zero := [.nilfn] }
theorem tk141 : TyOK Tryz.prog 141 ti141 := tyOK_of Tryz.underlying141 Tryz.type141 rfl (by kernel_rfl) (noFlat rfl)
def ti149 : TI := { desc := .slice 353, size := 1, bytes := 24, zero := [.nil0] }
theorem tk149 : TyOK Tryz.prog 149 ti149 := tyOK_of Tryz.underlying149 Tryz.type149 rfl (by kernel_rfl) (noFlat rfl)
def ti150 : TI := { desc := .slice 152, size := 1, bytes := 24, zero := [.nil0] }
theorem tk150 : TyOK Tryz.prog 150 ti150 := tyOK_of Tryz.underlying150 Tryz.type150 rfl (by kernel_rfl) (noFlat rfl)
def ti152 : TI := { desc := .struct #[{ name := "Kind", type := 3, offset := 0, embedded := false, tag := "", pkgPath := "", byteOffset := 0 }, { name := "Set", type := 149, offset := 1, embedded := false, tag := "", pkgPath := "", byteOffset := 8 }, { name := "Min", type := 3, offset := 2, embedded := false, tag := "", pkgPath := "", byteOffset := 32 }, { name := "Max", type := 3, offset := 3, embedded := false, tag := "", pkgPath := "", byteOffset := 40 }, { name := "Subs", type := 150, offset := 4, embedded := false, tag := "", pkgPath := "", byteOffset := 48 }], size := 5, bytes := 72, zero := [.int .i64 0, .nil0, .int .i64 0, .int .i64 0, .nil0] }
theorem tk152 : TyOK Tryz.prog 152 ti152 := tyOK_of Tryz.underlying152 Tryz.type152 rfl (by kernel_rfl) (noFlat rfl)
def ti155 : TI := { desc := .slice 524, size := 1, bytes := 24, zero := [.nil0] }
theorem tk155 : TyOK Tryz.prog 155 ti155 := tyOK_of Tryz.underlying155 Tryz.type155 rfl (by kernel_rfl) (noFlat rfl)
def ti157 : TI := { desc := .struct #[{ name := "Next", type := 3, offset := 0, embedded := false, tag := "", pkgPath := "", byteOffset := 0 }, { name := "Blobs", type := 155, offset := 1, embedded := false, tag := "", pkgPath := "", byteOffset := 8 }], size := 2, bytes := 32, zero := [.int .i64 0, .nil0] }
theorem tk157 : TyOK Tryz.prog 157 ti157 := tyOK_of Tryz.underlying157 Tryz.type157 rfl (by kernel_rfl) (noFlat rfl)
def ti158 : TI := { desc := .slice 239, size := 1, bytes := 24, zero := [.nil0] }
theorem tk158 : TyOK Tryz.prog 158 ti158 := tyOK_of Tryz.underlying158 Tryz.type158 rfl (by kernel_rfl) (noFlat rfl)
def ti159 : TI := { desc := .slice 526, size := 1, bytes := 24, zero := [.nil0] }
theorem tk159 : TyOK Tryz.prog 159 ti159 := tyOK_of Tryz.underlying159 Tryz.type159 rfl (by kernel_rfl) (noFlat rfl)
def ti161 : TI := { desc := .struct #[{ name := "Name", type := 9, offset := 0, embedded := false, tag := "", pkgPath := "", byteOffset := 0 }, { name := "Store", type := 157, offset := 1, embedded := false, tag := "", pkgPath := "", byteOffset := 16 }, { name := "Commits", type := 158, offset := 3, embedded := false, tag := "", pkgPath := "", byteOffset := 48 }, { name := "Branches", type := 159, offset := 4, embedded := false, tag := "", pkgPath := "", byteOffset := 72 }], size := 5, bytes := 96, zero := [.str [], .int .i64 0, .nil0, .nil0, .nil0] }
theorem tk161 : TyOK Tryz.prog 161 ti161 := tyOK_of Tryz.underlying161 Tryz.type161 rfl (by kernel_rfl) (noFlat rfl)
def ti163 : TI := { desc := .slice 165, size := 1, bytes := 24, zero := [.nil0] }
theorem tk163 : TyOK Tryz.prog 163 ti163 := tyOK_of Tryz.underlying163 Tryz.type163 rfl (by kernel_rfl) (noFlat rfl)
def ti165 : TI := { desc := .struct #[{ name := "Kind", type := 3, offset := 0, embedded := false, tag := "", pkgPath := "", byteOffset := 0 }, { name := "Text", type := 9, offset := 1, embedded := false, tag := "", pkgPath := "", byteOffset := 8 }, { name := "At", type := 3, offset := 2, embedded := false, tag := "", pkgPath := "", byteOffset := 24 }, { name := "End", type := 3, offset := 3, embedded := false, tag := "", pkgPath := "", byteOffset := 32 }, { name := "Kids", type := 163, offset := 4, embedded := false, tag := "", pkgPath := "", byteOffset := 40 }], size := 5, bytes := 64, zero := [.int .i64 0, .str [], .int .i64 0, .int .i64 0, .nil0] }
theorem tk165 : TyOK Tryz.prog 165 ti165 := tyOK_of Tryz.underlying165 Tryz.type165 rfl (by kernel_rfl) (noFlat rfl)
def ti167 : TI := { desc := .struct #[{ name := "Name", type := 9, offset := 0, embedded := false, tag := "", pkgPath := "", byteOffset := 0 }, { name := "Doc", type := 3, offset := 1, embedded := false, tag := "", pkgPath := "", byteOffset := 16 }, { name := "Tree", type := 165, offset := 2, embedded := false, tag := "", pkgPath := "", byteOffset := 24 }], size := 7, bytes := 88, zero := [.str [], .int .i64 0, .int .i64 0, .str [], .int .i64 0, .int .i64 0, .nil0] }
theorem tk167 : TyOK Tryz.prog 167 ti167 := tyOK_of Tryz.underlying167 Tryz.type167 rfl (by kernel_rfl) (noFlat rfl)
def ti173 : TI := { desc := .func #[35, 4] #[] false, size := 1, bytes := 8, zero := [.nilfn] }
theorem tk173 : TyOK Tryz.prog 173 ti173 := tyOK_of Tryz.underlying173 Tryz.type173 rfl (by kernel_rfl) (noFlat rfl)
def ti175 : TI := { desc := .slice 5, size := 1, bytes := 24, zero := [.nil0] }
theorem tk175 : TyOK Tryz.prog 175 ti175 := tyOK_of Tryz.underlying175 Tryz.type175 rfl (by kernel_rfl) (noFlat rfl)
def ti180 : TI := { desc := .slice 185, size := 1, bytes := 24, zero := [.nil0] }
theorem tk180 : TyOK Tryz.prog 180 ti180 := tyOK_of Tryz.underlying180 Tryz.type180 rfl (by kernel_rfl) (noFlat rfl)
def ti183 : TI := { desc := .slice 333, size := 1, bytes := 24, zero := [.nil0] }
theorem tk183 : TyOK Tryz.prog 183 ti183 := tyOK_of Tryz.underlying183 Tryz.type183 rfl (by kernel_rfl) (noFlat rfl)
def ti185 : TI := { desc := .struct #[{ name := "Node", type := 165, offset := 0, embedded := false, tag := "", pkgPath := "", byteOffset := 0 }, { name := "Binds", type := 183, offset := 5, embedded := false, tag := "", pkgPath := "", byteOffset := 64 }], size := 6, bytes := 88, zero := [.int .i64 0, .str [], .int .i64 0, .int .i64 0, .nil0, .nil0] }
theorem tk185 : TyOK Tryz.prog 185 ti185 := tyOK_of Tryz.underlying185 Tryz.type185 rfl (by kernel_rfl) (noFlat rfl)
def ti186 : TI := { desc := .unsafePointer, size := 1, bytes := 8, zero := [.nilptr] }
theorem tk186 : TyOK Tryz.prog 186 ti186 := tyOK_of Tryz.underlying186 Tryz.type186 rfl (by kernel_rfl) (noFlat rfl)
def ti187 : TI := { desc := .int .u64, size := 1, bytes := 8, zero := [.int .u64 0] }
theorem tk187 : TyOK Tryz.prog 187 ti187 := tyOK_of Tryz.underlying187 Tryz.type187 rfl (by kernel_rfl) (noFlat rfl)
def ti189 : TI := { desc := .struct #[{ name := "typ_", type := 17, offset := 0, embedded := false, tag := "", pkgPath := "internal/reflectlite", byteOffset := 0 }, { name := "ptr", type := 186, offset := 1, embedded := false, tag := "", pkgPath := "internal/reflectlite", byteOffset := 8 }, { name := "flag", type := 187, offset := 2, embedded := true, tag := "", pkgPath := "internal/reflectlite", byteOffset := 16 }], size := 3, bytes := 24, zero := [.nilptr, .nilptr, .int .u64 0] }
theorem tk189 : TyOK Tryz.prog 189 ti189 := tyOK_of Tryz.underlying189 Tryz.type189 rfl (by kernel_rfl) (noFlat rfl)
def ti191 : TI := { desc := .func #[3, 3] #[] false, size := 1, bytes := 8, zero := [.nilfn] }
theorem tk191 : TyOK Tryz.prog 191 ti191 := tyOK_of Tryz.underlying191 Tryz.type191 rfl (by kernel_rfl) (noFlat rfl)
def ti196 : TI := { desc := .struct #[{ name := "Less", type := 117, offset := 0, embedded := false, tag := "", pkgPath := "", byteOffset := 0 }, { name := "Swap", type := 191, offset := 1, embedded := false, tag := "", pkgPath := "", byteOffset := 8 }], size := 2, bytes := 16, zero := [.nilfn, .nilfn] }
theorem tk196 : TyOK Tryz.prog 196 ti196 := tyOK_of Tryz.underlying196 Tryz.type196 rfl (by kernel_rfl) (noFlat rfl)
def ti203 : TI := { desc := .int .u64, size := 1, bytes := 8, zero := [.int .u64 0] }
theorem tk203 : TyOK Tryz.prog 203 ti203 := tyOK_of Tryz.underlying203 Tryz.type203 rfl (by kernel_rfl) (noFlat rfl)
def ti207 : TI := { desc := .pointer 3, size := 1, bytes := 8, zero := [.nilptr] }
theorem tk207 : TyOK Tryz.prog 207 ti207 := tyOK_of Tryz.underlying207 Tryz.type207 rfl (by kernel_rfl) (noFlat rfl)
def ti212 : TI := { desc := .func #[140] #[4] false, size := 1, bytes := 8, zero := [.nilfn] }
theorem tk212 : TyOK Tryz.prog 212 ti212 := tyOK_of Tryz.underlying212 Tryz.type212 rfl (by kernel_rfl) (noFlat rfl)
def ti218 : TI := { desc := .func #[35] #[35] false, size := 1, bytes := 8, zero := [.nilfn] }
theorem tk218 : TyOK Tryz.prog 218 ti218 := tyOK_of Tryz.underlying218 Tryz.type218 rfl (by kernel_rfl) (noFlat rfl)
def ti237 : TI := { desc := .slice 243, size := 1, bytes := 24, zero := [.nil0] }
theorem tk237 : TyOK Tryz.prog 237 ti237 := tyOK_of Tryz.underlying237 Tryz.type237 rfl (by kernel_rfl) (noFlat rfl)
def ti239 : TI := { desc := .struct #[{ name := "ID", type := 3, offset := 0, embedded := false, tag := "", pkgPath := "", byteOffset := 0 }, { name := "Parents", type := 58, offset := 1, embedded := false, tag := "", pkgPath := "", byteOffset := 8 }, { name := "Changes", type := 237, offset := 2, embedded := false, tag := "", pkgPath := "", byteOffset := 32 }, { name := "Time", type := 3, offset := 3, embedded := false, tag := "", pkgPath := "", byteOffset := 56 }, { name := "Author", type := 3, offset := 4, embedded := false, tag := "", pkgPath := "", byteOffset := 64 }], size := 5, bytes := 72, zero := [.int .i64 0, .nil0, .nil0, .int .i64 0, .int .i64 0] }
theorem tk239 : TyOK Tryz.prog 239 ti239 := tyOK_of Tryz.underlying239 Tryz.type239 rfl (by kernel_rfl) (noFlat rfl)
def ti243 : TI := { desc := .struct #[{ name := "Path", type := 9, offset := 0, embedded := false, tag := "", pkgPath := "", byteOffset := 0 }, { name := "Blob", type := 3, offset := 1, embedded := false, tag := "", pkgPath := "", byteOffset := 16 }], size := 2, bytes := 24, zero := [.str [], .int .i64 0] }
theorem tk243 : TyOK Tryz.prog 243 ti243 := tyOK_of Tryz.underlying243 Tryz.type243 rfl (by kernel_rfl) (noFlat rfl)
def ti248 : TI := { desc := .struct #[{ name := "ID", type := 3, offset := 0, embedded := false, tag := "", pkgPath := "", byteOffset := 0 }, { name := "Kind", type := 3, offset := 1, embedded := false, tag := "", pkgPath := "", byteOffset := 8 }, { name := "Name", type := 9, offset := 2, embedded := false, tag := "", pkgPath := "", byteOffset := 16 }, { name := "Parent", type := 3, offset := 3, embedded := false, tag := "", pkgPath := "", byteOffset := 32 }, { name := "Type", type := 9, offset := 4, embedded := false, tag := "", pkgPath := "", byteOffset := 40 }, { name := "Params", type := 29, offset := 5, embedded := false, tag := "", pkgPath := "", byteOffset := 56 }, { name := "Supers", type := 29, offset := 6, embedded := false, tag := "", pkgPath := "", byteOffset := 80 }, { name := "Super", type := 4, offset := 7, embedded := false, tag := "", pkgPath := "", byteOffset := 104 }, { name := "Doc", type := 3, offset := 8, embedded := false, tag := "", pkgPath := "", byteOffset := 112 }, { name := "At", type := 3, offset := 9, embedded := false, tag := "", pkgPath := "", byteOffset := 120 }, { name := "End", type := 3, offset := 10, embedded := false, tag := "", pkgPath := "", byteOffset := 128 }], size := 11, bytes := 136, zero := [.int .i64 0, .int .i64 0, .str [], .int .i64 0, .str [], .nil0, .nil0, .bool false, .int .i64 0, .int .i64 0, .int .i64 0] }
theorem tk248 : TyOK Tryz.prog 248 ti248 := tyOK_of Tryz.underlying248 Tryz.type248 rfl (by kernel_rfl) (noFlat rfl)
def ti250 : TI := { desc := .struct #[{ name := "Doc", type := 3, offset := 0, embedded := false, tag := "", pkgPath := "", byteOffset := 0 }, { name := "At", type := 3, offset := 1, embedded := false, tag := "", pkgPath := "", byteOffset := 8 }, { name := "End", type := 3, offset := 2, embedded := false, tag := "", pkgPath := "", byteOffset := 16 }, { name := "Kind", type := 3, offset := 3, embedded := false, tag := "", pkgPath := "", byteOffset := 24 }, { name := "Decl", type := 3, offset := 4, embedded := false, tag := "", pkgPath := "", byteOffset := 32 }, { name := "By", type := 3, offset := 5, embedded := false, tag := "", pkgPath := "", byteOffset := 40 }], size := 6, bytes := 48, zero := [.int .i64 0, .int .i64 0, .int .i64 0, .int .i64 0, .int .i64 0, .int .i64 0] }
theorem tk250 : TyOK Tryz.prog 250 ti250 := tyOK_of Tryz.underlying250 Tryz.type250 rfl (by kernel_rfl) (noFlat rfl)
def ti273 : TI := { desc := .int .i64, size := 1, bytes := 8, zero := [.int .i64 0] }
theorem tk273 : TyOK Tryz.prog 273 ti273 := tyOK_of Tryz.underlying273 Tryz.type273 rfl (by kernel_rfl) (noFlat rfl)
def ti333 : TI := { desc := .struct #[{ name := "Name", type := 9, offset := 0, embedded := false, tag := "", pkgPath := "", byteOffset := 0 }, { name := "Nodes", type := 163, offset := 1, embedded := false, tag := "", pkgPath := "", byteOffset := 16 }], size := 2, bytes := 40, zero := [.str [], .nil0] }
theorem tk333 : TyOK Tryz.prog 333 ti333 := tyOK_of Tryz.underlying333 Tryz.type333 rfl (by kernel_rfl) (noFlat rfl)
def ti334 : TI := { desc := .int .u64, size := 1, bytes := 8, zero := [.int .u64 0] }
theorem tk334 : TyOK Tryz.prog 334 ti334 := tyOK_of Tryz.underlying334 Tryz.type334 rfl (by kernel_rfl) (noFlat rfl)
def ti353 : TI := { desc := .struct #[{ name := "Lo", type := 5, offset := 0, embedded := false, tag := "", pkgPath := "", byteOffset := 0 }, { name := "Hi", type := 5, offset := 1, embedded := false, tag := "", pkgPath := "", byteOffset := 1 }], size := 2, bytes := 2, zero := [.int .u8 0, .int .u8 0] }
theorem tk353 : TyOK Tryz.prog 353 ti353 := tyOK_of Tryz.underlying353 Tryz.type353 rfl (by kernel_rfl) (noFlat rfl)
def ti365 : TI := { desc := .struct #[{ name := "From", type := 3, offset := 0, embedded := false, tag := "", pkgPath := "", byteOffset := 0 }, { name := "To", type := 3, offset := 1, embedded := false, tag := "", pkgPath := "", byteOffset := 8 }], size := 2, bytes := 16, zero := [.int .i64 0, .int .i64 0] }
theorem tk365 : TyOK Tryz.prog 365 ti365 := tyOK_of Tryz.underlying365 Tryz.type365 rfl (by kernel_rfl) (noFlat rfl)
def ti443 : TI := { desc := .pointer 5, size := 1, bytes := 8, zero := [.nilptr] }
theorem tk443 : TyOK Tryz.prog 443 ti443 := tyOK_of Tryz.underlying443 Tryz.type443 rfl (by kernel_rfl) (noFlat rfl)
def ti465 : TI := { desc := .struct #[{ name := "lo", type := 5, offset := 0, embedded := false, tag := "", pkgPath := "unicode/utf8", byteOffset := 0 }, { name := "hi", type := 5, offset := 1, embedded := false, tag := "", pkgPath := "unicode/utf8", byteOffset := 1 }], size := 2, bytes := 2, zero := [.int .u8 0, .int .u8 0] }
theorem tk465 : TyOK Tryz.prog 465 ti465 := tyOK_of Tryz.underlying465 Tryz.type465 rfl (by kernel_rfl) (noFlat rfl)
def ti466 : TI := { desc := .array 16 465, size := 32, bytes := 32, zero := [.int .u8 0, .int .u8 0, .int .u8 0, .int .u8 0, .int .u8 0, .int .u8 0, .int .u8 0, .int .u8 0, .int .u8 0, .int .u8 0, .int .u8 0, .int .u8 0, .int .u8 0, .int .u8 0, .int .u8 0, .int .u8 0, .int .u8 0, .int .u8 0, .int .u8 0, .int .u8 0, .int .u8 0, .int .u8 0, .int .u8 0, .int .u8 0, .int .u8 0, .int .u8 0, .int .u8 0, .int .u8 0, .int .u8 0, .int .u8 0, .int .u8 0, .int .u8 0] }
theorem tk466 : TyOK Tryz.prog 466 ti466 := tyOK_of Tryz.underlying466 Tryz.type466 rfl (by kernel_rfl) (noFlat rfl)
def ti516 : TI := { desc := .int .u8, size := 1, bytes := 1, zero := [.int .u8 0] }
theorem tk516 : TyOK Tryz.prog 516 ti516 := tyOK_of Tryz.underlying516 Tryz.type516 rfl (by kernel_rfl) (noFlat rfl)
def ti517 : TI := { desc := .int .u8, size := 1, bytes := 1, zero := [.int .u8 0] }
theorem tk517 : TyOK Tryz.prog 517 ti517 := tyOK_of Tryz.underlying517 Tryz.type517 rfl (by kernel_rfl) (noFlat rfl)
def ti518 : TI := { desc := .func #[186, 186] #[4] false, size := 1, bytes := 8, zero := [.nilfn] }
theorem tk518 : TyOK Tryz.prog 518 ti518 := tyOK_of Tryz.underlying518 Tryz.type518 rfl (by kernel_rfl) (noFlat rfl)
def ti519 : TI := { desc := .int .i32, size := 1, bytes := 4, zero := [.int .i32 0] }
theorem tk519 : TyOK Tryz.prog 519 ti519 := tyOK_of Tryz.underlying519 Tryz.type519 rfl (by kernel_rfl) (noFlat rfl)
def ti520 : TI := { desc := .int .i32, size := 1, bytes := 4, zero := [.int .i32 0] }
theorem tk520 : TyOK Tryz.prog 520 ti520 := tyOK_of Tryz.underlying520 Tryz.type520 rfl (by kernel_rfl) (noFlat rfl)
def ti522 : TI := { desc := .struct #[{ name := "Size_", type := 12, offset := 0, embedded := false, tag := "", pkgPath := "", byteOffset := 0 }, { name := "PtrBytes", type := 12, offset := 1, embedded := false, tag := "", pkgPath := "", byteOffset := 8 }, { name := "Hash", type := 131, offset := 2, embedded := false, tag := "", pkgPath := "", byteOffset := 16 }, { name := "TFlag", type := 516, offset := 3, embedded := false, tag := "", pkgPath := "", byteOffset := 20 }, { name := "Align_", type := 5, offset := 4, embedded := false, tag := "", pkgPath := "", byteOffset := 21 }, { name := "FieldAlign_", type := 5, offset := 5, embedded := false, tag := "", pkgPath := "", byteOffset := 22 }, { name := "Kind_", type := 517, offset := 6, embedded := false, tag := "", pkgPath := "", byteOffset := 23 }, { name := "Equal", type := 518, offset := 7, embedded := false, tag := "", pkgPath := "", byteOffset := 24 }, { name := "GCData", type := 443, offset := 8, embedded := false, tag := "", pkgPath := "", byteOffset := 32 }, { name := "Str", type := 519, offset := 9, embedded := false, tag := "", pkgPath := "", byteOffset := 40 }, { name := "PtrToThis", type := 520, offset := 10, embedded := false, tag := "", pkgPath := "", byteOffset := 44 }], size := 11, bytes := 48, zero := [.int .u64 0, .int .u64 0, .int .u32 0, .int .u8 0, .int .u8 0, .int .u8 0, .int .u8 0, .nilfn, .nilptr, .int .i32 0, .int .i32 0] }
theorem tk522 : TyOK Tryz.prog 522 ti522 := tyOK_of Tryz.underlying522 Tryz.type522 rfl (by kernel_rfl) (noFlat rfl)
def ti524 : TI := { desc := .struct #[{ name := "ID", type := 3, offset := 0, embedded := false, tag := "", pkgPath := "", byteOffset := 0 }, { name := "Text", type := 9, offset := 1, embedded := false, tag := "", pkgPath := "", byteOffset := 8 }], size := 2, bytes := 24, zero := [.int .i64 0, .str []] }
theorem tk524 : TyOK Tryz.prog 524 ti524 := tyOK_of Tryz.underlying524 Tryz.type524 rfl (by kernel_rfl) (noFlat rfl)
def ti526 : TI := { desc := .struct #[{ name := "Name", type := 9, offset := 0, embedded := false, tag := "", pkgPath := "", byteOffset := 0 }, { name := "Head", type := 3, offset := 1, embedded := false, tag := "", pkgPath := "", byteOffset := 16 }], size := 2, bytes := 24, zero := [.str [], .int .i64 0] }
theorem tk526 : TyOK Tryz.prog 526 ti526 := tyOK_of Tryz.underlying526 Tryz.type526 rfl (by kernel_rfl) (noFlat rfl)
def tys : List (Nat × TI) := [(3, ti3), (4, ti4), (5, ti5), (9, ti9), (12, ti12), (17, ti17), (20, ti20), (21, ti21), (22, ti22), (25, ti25), (29, ti29), (31, ti31), (32, ti32), (33, ti33), (35, ti35), (37, ti37), (38, ti38), (40, ti40), (42, ti42), (43, ti43), (44, ti44), (45, ti45), (47, ti47), (49, ti49), (50, ti50), (52, ti52), (53, ti53), (57, ti57), (58, ti58), (62, ti62), (64, ti64), (65, ti65), (68, ti68), (69, ti69), (71, ti71), (74, ti74), (76, ti76), (81, ti81), (86, ti86), (89, ti89), (91, ti91), (94, ti94), (97, ti97), (108, ti108), (115, ti115), (117, ti117), (119, ti119), (123, ti123), (131, ti131), (133, ti133), (138, ti138), (140, ti140), (141, ti141), (149, ti149), (150, ti150), (152, ti152), (155, ti155), (157, ti157), (158, ti158), (159, ti159), (161, ti161), (163, ti163), (165, ti165), (167, ti167), (173, ti173), (175, ti175), (180, ti180), (183, ti183), (185, ti185), (186, ti186), (187, ti187), (189, ti189), (191, ti191), (196, ti196), (203, ti203), (207, ti207), (212, ti212), (218, ti218), (237, ti237), (239, ti239), (243, ti243), (248, ti248), (250, ti250), (273, ti273), (333, ti333), (334, ti334), (353, ti353), (365, ti365), (443, ti443), (465, ti465), (466, ti466), (516, ti516), (517, ti517), (518, ti518), (519, ti519), (520, ti520), (522, ti522), (524, ti524), (526, ti526)]
theorem tys_good : ∀ p ∈ tys, TyOK Tryz.prog p.1 p.2 := cons_ok (tk3) (cons_ok (tk4) (cons_ok (tk5) (cons_ok (tk9) (cons_ok (tk12) (cons_ok (tk17) (cons_ok (tk20) (cons_ok (tk21) (cons_ok (tk22) (cons_ok (tk25) (cons_ok (tk29) (cons_ok (tk31) (cons_ok (tk32) (cons_ok (tk33) (cons_ok (tk35) (cons_ok (tk37) (cons_ok (tk38) (cons_ok (tk40) (cons_ok (tk42) (cons_ok (tk43) (cons_ok (tk44) (cons_ok (tk45) (cons_ok (tk47) (cons_ok (tk49) (cons_ok (tk50) (cons_ok (tk52) (cons_ok (tk53) (cons_ok (tk57) (cons_ok (tk58) (cons_ok (tk62) (cons_ok (tk64) (cons_ok (tk65) (cons_ok (tk68) (cons_ok (tk69) (cons_ok (tk71) (cons_ok (tk74) (cons_ok (tk76) (cons_ok (tk81) (cons_ok (tk86) (cons_ok (tk89) (cons_ok (tk91) (cons_ok (tk94) (cons_ok (tk97) (cons_ok (tk108) (cons_ok (tk115) (cons_ok (tk117) (cons_ok (tk119) (cons_ok (tk123) (cons_ok (tk131) (cons_ok (tk133) (cons_ok (tk138) (cons_ok (tk140) (cons_ok (tk141) (cons_ok (tk149) (cons_ok (tk150) (cons_ok (tk152) (cons_ok (tk155) (cons_ok (tk157) (cons_ok (tk158) (cons_ok (tk159) (cons_ok (tk161) (cons_ok (tk163) (cons_ok (tk165) (cons_ok (tk167) (cons_ok (tk173) (cons_ok (tk175) (cons_ok (tk180) (cons_ok (tk183) (cons_ok (tk185) (cons_ok (tk186) (cons_ok (tk187) (cons_ok (tk189) (cons_ok (tk191) (cons_ok (tk196) (cons_ok (tk203) (cons_ok (tk207) (cons_ok (tk212) (cons_ok (tk218) (cons_ok (tk237) (cons_ok (tk239) (cons_ok (tk243) (cons_ok (tk248) (cons_ok (tk250) (cons_ok (tk273) (cons_ok (tk333) (cons_ok (tk334) (cons_ok (tk353) (cons_ok (tk365) (cons_ok (tk443) (cons_ok (tk465) (cons_ok (tk466) (cons_ok (tk516) (cons_ok (tk517) (cons_ok (tk518) (cons_ok (tk519) (cons_ok (tk520) (cons_ok (tk522) (cons_ok (tk524) (cons_ok (tk526) (nil_ok)))))))))))))))))))))))))))))))))))))))))))))))))))))))))))))))))))))))))))))))))))))))))))))))))))
noncomputable def fns : List (Nat × Func) := [(3, Tryz.f3), (4, Tryz.f4), (5, Tryz.f5), (6, Tryz.f6), (7, Tryz.f7), (8, Tryz.f8), (9, Tryz.f9), (10, Tryz.f10), (11, Tryz.f11), (12, Tryz.f12), (13, Tryz.f13), (14, Tryz.f14), (15, Tryz.f15), (16, Tryz.f16), (17, Tryz.f17), (18, Tryz.f18), (19, Tryz.f19), (20, Tryz.f20), (21, Tryz.f21), (22, Tryz.f22), (23, Tryz.f23), (24, Tryz.f24), (25, Tryz.f25), (26, Tryz.f26), (27, Tryz.f27), (28, Tryz.f28), (29, Tryz.f29), (30, Tryz.f30), (31, Tryz.f31), (32, Tryz.f32), (33, Tryz.f33), (34, Tryz.f34), (35, Tryz.f35), (36, Tryz.f36), (37, Tryz.f37), (38, Tryz.f38), (39, Tryz.f39), (40, Tryz.f40), (41, Tryz.f41), (42, Tryz.f42), (43, Tryz.f43), (44, Tryz.f44), (45, Tryz.f45), (46, Tryz.f46), (47, Tryz.f47), (48, Tryz.f48), (49, Tryz.f49), (50, Tryz.f50), (51, Tryz.f51), (52, Tryz.f52), (53, Tryz.f53), (54, Tryz.f54), (55, Tryz.f55), (56, Tryz.f56), (57, Tryz.f57), (58, Tryz.f58), (59, Tryz.f59), (60, Tryz.f60), (61, Tryz.f61), (62, Tryz.f62), (63, Tryz.f63), (64, Tryz.f64), (65, Tryz.f65), (66, Tryz.f66), (67, Tryz.f67), (68, Tryz.f68), (69, Tryz.f69), (70, Tryz.f70), (71, Tryz.f71), (72, Tryz.f72), (73, Tryz.f73), (74, Tryz.f74), (75, Tryz.f75), (76, Tryz.f76), (77, Tryz.f77), (78, Tryz.f78), (79, Tryz.f79), (80, Tryz.f80), (81, Tryz.f81), (82, Tryz.f82), (83, Tryz.f83), (84, Tryz.f84), (85, Tryz.f85), (86, Tryz.f86), (87, Tryz.f87), (88, Tryz.f88), (99, Tryz.f99), (100, Tryz.f100), (101, Tryz.f101), (102, Tryz.f102), (103, Tryz.f103), (104, Tryz.f104), (105, Tryz.f105), (112, Tryz.f112), (113, Tryz.f113), (114, Tryz.f114), (115, Tryz.f115), (116, Tryz.f116), (117, Tryz.f117), (118, Tryz.f118), (119, Tryz.f119), (120, Tryz.f120), (121, Tryz.f121), (122, Tryz.f122), (123, Tryz.f123), (124, Tryz.f124), (125, Tryz.f125), (126, Tryz.f126), (127, Tryz.f127), (128, Tryz.f128), (129, Tryz.f129), (130, Tryz.f130), (131, Tryz.f131), (132, Tryz.f132), (133, Tryz.f133), (134, Tryz.f134), (135, Tryz.f135), (136, Tryz.f136), (137, Tryz.f137), (138, Tryz.f138), (139, Tryz.f139), (142, Tryz.f142), (143, Tryz.f143), (144, Tryz.f144), (145, Tryz.f145), (146, Tryz.f146), (147, Tryz.f147), (148, Tryz.f148), (171, Tryz.f171), (183, Tryz.f183), (184, Tryz.f184), (185, Tryz.f185), (186, Tryz.f186), (187, Tryz.f187), (188, Tryz.f188), (189, Tryz.f189), (190, Tryz.f190), (191, Tryz.f191), (192, Tryz.f192), (193, Tryz.f193), (194, Tryz.f194), (195, Tryz.f195), (196, Tryz.f196), (197, Tryz.f197), (198, Tryz.f198), (199, Tryz.f199), (200, Tryz.f200), (201, Tryz.f201), (202, Tryz.f202), (203, Tryz.f203), (206, Tryz.f206), (207, Tryz.f207), (208, Tryz.f208), (209, Tryz.f209), (210, Tryz.f210), (227, Tryz.f227), (249, Tryz.f249), (258, Tryz.f258), (259, Tryz.f259), (260, Tryz.f260), (261, Tryz.f261), (262, Tryz.f262), (263, Tryz.f263), (264, Tryz.f264), (265, Tryz.f265), (266, Tryz.f266), (267, Tryz.f267), (268, Tryz.f268), (269, Tryz.f269), (270, Tryz.f270), (271, Tryz.f271), (272, Tryz.f272), (273, Tryz.f273), (274, Tryz.f274), (278, Tryz.f278), (279, Tryz.f279), (280, Tryz.f280), (282, Tryz.f282), (287, Tryz.f287), (288, Tryz.f288), (290, Tryz.f290), (300, Tryz.f300), (339, Tryz.f339), (341, Tryz.f341), (343, Tryz.f343), (344, Tryz.f344), (345, Tryz.f345), (346, Tryz.f346), (348, Tryz.f348), (349, Tryz.f349), (350, Tryz.f350), (358, Tryz.f358), (367, Tryz.f367), (407, Tryz.f407), (408, Tryz.f408), (409, Tryz.f409), (421, Tryz.f421), (422, Tryz.f422), (423, Tryz.f423), (424, Tryz.f424), (465, Tryz.f465)]
theorem fk3 : Tryz.prog.funcs[3]? = some Tryz.f3 ∧ Tryz.f3.body.isNone = false ∧ (Tryz.f3.name == "runtime.NumGoroutine") = false := ⟨Tryz.func3, by kernel_rfl, by kernel_rfl⟩
theorem fk4 : Tryz.prog.funcs[4]? = some Tryz.f4 ∧ Tryz.f4.body.isNone = false ∧ (Tryz.f4.name == "runtime.NumGoroutine") = false := ⟨Tryz.func4, by kernel_rfl, by kernel_rfl⟩
theorem fk5 : Tryz.prog.funcs[5]? = some Tryz.f5 ∧ Tryz.f5.body.isNone = false ∧ (Tryz.f5.name == "runtime.NumGoroutine") = false := ⟨Tryz.func5, by kernel_rfl, by kernel_rfl⟩
theorem fk6 : Tryz.prog.funcs[6]? = some Tryz.f6 ∧ Tryz.f6.body.isNone = false ∧ (Tryz.f6.name == "runtime.NumGoroutine") = false := ⟨Tryz.func6, by kernel_rfl, by kernel_rfl⟩
theorem fk7 : Tryz.prog.funcs[7]? = some Tryz.f7 ∧ Tryz.f7.body.isNone = false ∧ (Tryz.f7.name == "runtime.NumGoroutine") = false := ⟨Tryz.func7, by kernel_rfl, by kernel_rfl⟩
theorem fk8 : Tryz.prog.funcs[8]? = some Tryz.f8 ∧ Tryz.f8.body.isNone = false ∧ (Tryz.f8.name == "runtime.NumGoroutine") = false := ⟨Tryz.func8, by kernel_rfl, by kernel_rfl⟩
theorem fk9 : Tryz.prog.funcs[9]? = some Tryz.f9 ∧ Tryz.f9.body.isNone = false ∧ (Tryz.f9.name == "runtime.NumGoroutine") = false := ⟨Tryz.func9, by kernel_rfl, by kernel_rfl⟩
theorem fk10 : Tryz.prog.funcs[10]? = some Tryz.f10 ∧ Tryz.f10.body.isNone = false ∧ (Tryz.f10.name == "runtime.NumGoroutine") = false := ⟨Tryz.func10, by kernel_rfl, by kernel_rfl⟩
theorem fk11 : Tryz.prog.funcs[11]? = some Tryz.f11 ∧ Tryz.f11.body.isNone = false ∧ (Tryz.f11.name == "runtime.NumGoroutine") = false := ⟨Tryz.func11, by kernel_rfl, by kernel_rfl⟩
theorem fk12 : Tryz.prog.funcs[12]? = some Tryz.f12 ∧ Tryz.f12.body.isNone = false ∧ (Tryz.f12.name == "runtime.NumGoroutine") = false := ⟨Tryz.func12, by kernel_rfl, by kernel_rfl⟩
theorem fk13 : Tryz.prog.funcs[13]? = some Tryz.f13 ∧ Tryz.f13.body.isNone = false ∧ (Tryz.f13.name == "runtime.NumGoroutine") = false := ⟨Tryz.func13, by kernel_rfl, by kernel_rfl⟩
theorem fk14 : Tryz.prog.funcs[14]? = some Tryz.f14 ∧ Tryz.f14.body.isNone = false ∧ (Tryz.f14.name == "runtime.NumGoroutine") = false := ⟨Tryz.func14, by kernel_rfl, by kernel_rfl⟩
theorem fk15 : Tryz.prog.funcs[15]? = some Tryz.f15 ∧ Tryz.f15.body.isNone = false ∧ (Tryz.f15.name == "runtime.NumGoroutine") = false := ⟨Tryz.func15, by kernel_rfl, by kernel_rfl⟩
theorem fk16 : Tryz.prog.funcs[16]? = some Tryz.f16 ∧ Tryz.f16.body.isNone = false ∧ (Tryz.f16.name == "runtime.NumGoroutine") = false := ⟨Tryz.func16, by kernel_rfl, by kernel_rfl⟩
theorem fk17 : Tryz.prog.funcs[17]? = some Tryz.f17 ∧ Tryz.f17.body.isNone = false ∧ (Tryz.f17.name == "runtime.NumGoroutine") = false := ⟨Tryz.func17, by kernel_rfl, by kernel_rfl⟩
theorem fk18 : Tryz.prog.funcs[18]? = some Tryz.f18 ∧ Tryz.f18.body.isNone = false ∧ (Tryz.f18.name == "runtime.NumGoroutine") = false := ⟨Tryz.func18, by kernel_rfl, by kernel_rfl⟩
theorem fk19 : Tryz.prog.funcs[19]? = some Tryz.f19 ∧ Tryz.f19.body.isNone = false ∧ (Tryz.f19.name == "runtime.NumGoroutine") = false := ⟨Tryz.func19, by kernel_rfl, by kernel_rfl⟩
theorem fk20 : Tryz.prog.funcs[20]? = some Tryz.f20 ∧ Tryz.f20.body.isNone = false ∧ (Tryz.f20.name == "runtime.NumGoroutine") = false := ⟨Tryz.func20, by kernel_rfl, by kernel_rfl⟩
theorem fk21 : Tryz.prog.funcs[21]? = some Tryz.f21 ∧ Tryz.f21.body.isNone = false ∧ (Tryz.f21.name == "runtime.NumGoroutine") = false := ⟨Tryz.func21, by kernel_rfl, by kernel_rfl⟩
theorem fk22 : Tryz.prog.funcs[22]? = some Tryz.f22 ∧ Tryz.f22.body.isNone = false ∧ (Tryz.f22.name == "runtime.NumGoroutine") = false := ⟨Tryz.func22, by kernel_rfl, by kernel_rfl⟩
theorem fk23 : Tryz.prog.funcs[23]? = some Tryz.f23 ∧ Tryz.f23.body.isNone = false ∧ (Tryz.f23.name == "runtime.NumGoroutine") = false := ⟨Tryz.func23, by kernel_rfl, by kernel_rfl⟩
theorem fk24 : Tryz.prog.funcs[24]? = some Tryz.f24 ∧ Tryz.f24.body.isNone = false ∧ (Tryz.f24.name == "runtime.NumGoroutine") = false := ⟨Tryz.func24, by kernel_rfl, by kernel_rfl⟩
theorem fk25 : Tryz.prog.funcs[25]? = some Tryz.f25 ∧ Tryz.f25.body.isNone = false ∧ (Tryz.f25.name == "runtime.NumGoroutine") = false := ⟨Tryz.func25, by kernel_rfl, by kernel_rfl⟩
theorem fk26 : Tryz.prog.funcs[26]? = some Tryz.f26 ∧ Tryz.f26.body.isNone = false ∧ (Tryz.f26.name == "runtime.NumGoroutine") = false := ⟨Tryz.func26, by kernel_rfl, by kernel_rfl⟩
theorem fk27 : Tryz.prog.funcs[27]? = some Tryz.f27 ∧ Tryz.f27.body.isNone = false ∧ (Tryz.f27.name == "runtime.NumGoroutine") = false := ⟨Tryz.func27, by kernel_rfl, by kernel_rfl⟩
theorem fk28 : Tryz.prog.funcs[28]? = some Tryz.f28 ∧ Tryz.f28.body.isNone = false ∧ (Tryz.f28.name == "runtime.NumGoroutine") = false := ⟨Tryz.func28, by kernel_rfl, by kernel_rfl⟩
theorem fk29 : Tryz.prog.funcs[29]? = some Tryz.f29 ∧ Tryz.f29.body.isNone = false ∧ (Tryz.f29.name == "runtime.NumGoroutine") = false := ⟨Tryz.func29, by kernel_rfl, by kernel_rfl⟩
theorem fk30 : Tryz.prog.funcs[30]? = some Tryz.f30 ∧ Tryz.f30.body.isNone = false ∧ (Tryz.f30.name == "runtime.NumGoroutine") = false := ⟨Tryz.func30, by kernel_rfl, by kernel_rfl⟩
theorem fk31 : Tryz.prog.funcs[31]? = some Tryz.f31 ∧ Tryz.f31.body.isNone = false ∧ (Tryz.f31.name == "runtime.NumGoroutine") = false := ⟨Tryz.func31, by kernel_rfl, by kernel_rfl⟩
theorem fk32 : Tryz.prog.funcs[32]? = some Tryz.f32 ∧ Tryz.f32.body.isNone = false ∧ (Tryz.f32.name == "runtime.NumGoroutine") = false := ⟨Tryz.func32, by kernel_rfl, by kernel_rfl⟩
theorem fk33 : Tryz.prog.funcs[33]? = some Tryz.f33 ∧ Tryz.f33.body.isNone = false ∧ (Tryz.f33.name == "runtime.NumGoroutine") = false := ⟨Tryz.func33, by kernel_rfl, by kernel_rfl⟩
theorem fk34 : Tryz.prog.funcs[34]? = some Tryz.f34 ∧ Tryz.f34.body.isNone = false ∧ (Tryz.f34.name == "runtime.NumGoroutine") = false := ⟨Tryz.func34, by kernel_rfl, by kernel_rfl⟩
theorem fk35 : Tryz.prog.funcs[35]? = some Tryz.f35 ∧ Tryz.f35.body.isNone = false ∧ (Tryz.f35.name == "runtime.NumGoroutine") = false := ⟨Tryz.func35, by kernel_rfl, by kernel_rfl⟩
theorem fk36 : Tryz.prog.funcs[36]? = some Tryz.f36 ∧ Tryz.f36.body.isNone = false ∧ (Tryz.f36.name == "runtime.NumGoroutine") = false := ⟨Tryz.func36, by kernel_rfl, by kernel_rfl⟩
theorem fk37 : Tryz.prog.funcs[37]? = some Tryz.f37 ∧ Tryz.f37.body.isNone = false ∧ (Tryz.f37.name == "runtime.NumGoroutine") = false := ⟨Tryz.func37, by kernel_rfl, by kernel_rfl⟩
theorem fk38 : Tryz.prog.funcs[38]? = some Tryz.f38 ∧ Tryz.f38.body.isNone = false ∧ (Tryz.f38.name == "runtime.NumGoroutine") = false := ⟨Tryz.func38, by kernel_rfl, by kernel_rfl⟩
theorem fk39 : Tryz.prog.funcs[39]? = some Tryz.f39 ∧ Tryz.f39.body.isNone = false ∧ (Tryz.f39.name == "runtime.NumGoroutine") = false := ⟨Tryz.func39, by kernel_rfl, by kernel_rfl⟩
theorem fk40 : Tryz.prog.funcs[40]? = some Tryz.f40 ∧ Tryz.f40.body.isNone = false ∧ (Tryz.f40.name == "runtime.NumGoroutine") = false := ⟨Tryz.func40, by kernel_rfl, by kernel_rfl⟩
theorem fk41 : Tryz.prog.funcs[41]? = some Tryz.f41 ∧ Tryz.f41.body.isNone = false ∧ (Tryz.f41.name == "runtime.NumGoroutine") = false := ⟨Tryz.func41, by kernel_rfl, by kernel_rfl⟩
theorem fk42 : Tryz.prog.funcs[42]? = some Tryz.f42 ∧ Tryz.f42.body.isNone = false ∧ (Tryz.f42.name == "runtime.NumGoroutine") = false := ⟨Tryz.func42, by kernel_rfl, by kernel_rfl⟩
theorem fk43 : Tryz.prog.funcs[43]? = some Tryz.f43 ∧ Tryz.f43.body.isNone = false ∧ (Tryz.f43.name == "runtime.NumGoroutine") = false := ⟨Tryz.func43, by kernel_rfl, by kernel_rfl⟩
theorem fk44 : Tryz.prog.funcs[44]? = some Tryz.f44 ∧ Tryz.f44.body.isNone = false ∧ (Tryz.f44.name == "runtime.NumGoroutine") = false := ⟨Tryz.func44, by kernel_rfl, by kernel_rfl⟩
theorem fk45 : Tryz.prog.funcs[45]? = some Tryz.f45 ∧ Tryz.f45.body.isNone = false ∧ (Tryz.f45.name == "runtime.NumGoroutine") = false := ⟨Tryz.func45, by kernel_rfl, by kernel_rfl⟩
theorem fk46 : Tryz.prog.funcs[46]? = some Tryz.f46 ∧ Tryz.f46.body.isNone = false ∧ (Tryz.f46.name == "runtime.NumGoroutine") = false := ⟨Tryz.func46, by kernel_rfl, by kernel_rfl⟩
theorem fk47 : Tryz.prog.funcs[47]? = some Tryz.f47 ∧ Tryz.f47.body.isNone = false ∧ (Tryz.f47.name == "runtime.NumGoroutine") = false := ⟨Tryz.func47, by kernel_rfl, by kernel_rfl⟩
theorem fk48 : Tryz.prog.funcs[48]? = some Tryz.f48 ∧ Tryz.f48.body.isNone = false ∧ (Tryz.f48.name == "runtime.NumGoroutine") = false := ⟨Tryz.func48, by kernel_rfl, by kernel_rfl⟩
theorem fk49 : Tryz.prog.funcs[49]? = some Tryz.f49 ∧ Tryz.f49.body.isNone = false ∧ (Tryz.f49.name == "runtime.NumGoroutine") = false := ⟨Tryz.func49, by kernel_rfl, by kernel_rfl⟩
theorem fk50 : Tryz.prog.funcs[50]? = some Tryz.f50 ∧ Tryz.f50.body.isNone = false ∧ (Tryz.f50.name == "runtime.NumGoroutine") = false := ⟨Tryz.func50, by kernel_rfl, by kernel_rfl⟩
theorem fk51 : Tryz.prog.funcs[51]? = some Tryz.f51 ∧ Tryz.f51.body.isNone = false ∧ (Tryz.f51.name == "runtime.NumGoroutine") = false := ⟨Tryz.func51, by kernel_rfl, by kernel_rfl⟩
theorem fk52 : Tryz.prog.funcs[52]? = some Tryz.f52 ∧ Tryz.f52.body.isNone = false ∧ (Tryz.f52.name == "runtime.NumGoroutine") = false := ⟨Tryz.func52, by kernel_rfl, by kernel_rfl⟩
theorem fk53 : Tryz.prog.funcs[53]? = some Tryz.f53 ∧ Tryz.f53.body.isNone = false ∧ (Tryz.f53.name == "runtime.NumGoroutine") = false := ⟨Tryz.func53, by kernel_rfl, by kernel_rfl⟩
theorem fk54 : Tryz.prog.funcs[54]? = some Tryz.f54 ∧ Tryz.f54.body.isNone = false ∧ (Tryz.f54.name == "runtime.NumGoroutine") = false := ⟨Tryz.func54, by kernel_rfl, by kernel_rfl⟩
theorem fk55 : Tryz.prog.funcs[55]? = some Tryz.f55 ∧ Tryz.f55.body.isNone = false ∧ (Tryz.f55.name == "runtime.NumGoroutine") = false := ⟨Tryz.func55, by kernel_rfl, by kernel_rfl⟩
theorem fk56 : Tryz.prog.funcs[56]? = some Tryz.f56 ∧ Tryz.f56.body.isNone = false ∧ (Tryz.f56.name == "runtime.NumGoroutine") = false := ⟨Tryz.func56, by kernel_rfl, by kernel_rfl⟩
theorem fk57 : Tryz.prog.funcs[57]? = some Tryz.f57 ∧ Tryz.f57.body.isNone = false ∧ (Tryz.f57.name == "runtime.NumGoroutine") = false := ⟨Tryz.func57, by kernel_rfl, by kernel_rfl⟩
theorem fk58 : Tryz.prog.funcs[58]? = some Tryz.f58 ∧ Tryz.f58.body.isNone = false ∧ (Tryz.f58.name == "runtime.NumGoroutine") = false := ⟨Tryz.func58, by kernel_rfl, by kernel_rfl⟩
theorem fk59 : Tryz.prog.funcs[59]? = some Tryz.f59 ∧ Tryz.f59.body.isNone = false ∧ (Tryz.f59.name == "runtime.NumGoroutine") = false := ⟨Tryz.func59, by kernel_rfl, by kernel_rfl⟩
theorem fk60 : Tryz.prog.funcs[60]? = some Tryz.f60 ∧ Tryz.f60.body.isNone = false ∧ (Tryz.f60.name == "runtime.NumGoroutine") = false := ⟨Tryz.func60, by kernel_rfl, by kernel_rfl⟩
theorem fk61 : Tryz.prog.funcs[61]? = some Tryz.f61 ∧ Tryz.f61.body.isNone = false ∧ (Tryz.f61.name == "runtime.NumGoroutine") = false := ⟨Tryz.func61, by kernel_rfl, by kernel_rfl⟩
theorem fk62 : Tryz.prog.funcs[62]? = some Tryz.f62 ∧ Tryz.f62.body.isNone = false ∧ (Tryz.f62.name == "runtime.NumGoroutine") = false := ⟨Tryz.func62, by kernel_rfl, by kernel_rfl⟩
theorem fk63 : Tryz.prog.funcs[63]? = some Tryz.f63 ∧ Tryz.f63.body.isNone = false ∧ (Tryz.f63.name == "runtime.NumGoroutine") = false := ⟨Tryz.func63, by kernel_rfl, by kernel_rfl⟩
theorem fk64 : Tryz.prog.funcs[64]? = some Tryz.f64 ∧ Tryz.f64.body.isNone = false ∧ (Tryz.f64.name == "runtime.NumGoroutine") = false := ⟨Tryz.func64, by kernel_rfl, by kernel_rfl⟩
theorem fk65 : Tryz.prog.funcs[65]? = some Tryz.f65 ∧ Tryz.f65.body.isNone = false ∧ (Tryz.f65.name == "runtime.NumGoroutine") = false := ⟨Tryz.func65, by kernel_rfl, by kernel_rfl⟩
theorem fk66 : Tryz.prog.funcs[66]? = some Tryz.f66 ∧ Tryz.f66.body.isNone = false ∧ (Tryz.f66.name == "runtime.NumGoroutine") = false := ⟨Tryz.func66, by kernel_rfl, by kernel_rfl⟩
theorem fk67 : Tryz.prog.funcs[67]? = some Tryz.f67 ∧ Tryz.f67.body.isNone = false ∧ (Tryz.f67.name == "runtime.NumGoroutine") = false := ⟨Tryz.func67, by kernel_rfl, by kernel_rfl⟩
theorem fk68 : Tryz.prog.funcs[68]? = some Tryz.f68 ∧ Tryz.f68.body.isNone = false ∧ (Tryz.f68.name == "runtime.NumGoroutine") = false := ⟨Tryz.func68, by kernel_rfl, by kernel_rfl⟩
theorem fk69 : Tryz.prog.funcs[69]? = some Tryz.f69 ∧ Tryz.f69.body.isNone = false ∧ (Tryz.f69.name == "runtime.NumGoroutine") = false := ⟨Tryz.func69, by kernel_rfl, by kernel_rfl⟩
theorem fk70 : Tryz.prog.funcs[70]? = some Tryz.f70 ∧ Tryz.f70.body.isNone = false ∧ (Tryz.f70.name == "runtime.NumGoroutine") = false := ⟨Tryz.func70, by kernel_rfl, by kernel_rfl⟩
theorem fk71 : Tryz.prog.funcs[71]? = some Tryz.f71 ∧ Tryz.f71.body.isNone = false ∧ (Tryz.f71.name == "runtime.NumGoroutine") = false := ⟨Tryz.func71, by kernel_rfl, by kernel_rfl⟩
theorem fk72 : Tryz.prog.funcs[72]? = some Tryz.f72 ∧ Tryz.f72.body.isNone = false ∧ (Tryz.f72.name == "runtime.NumGoroutine") = false := ⟨Tryz.func72, by kernel_rfl, by kernel_rfl⟩
theorem fk73 : Tryz.prog.funcs[73]? = some Tryz.f73 ∧ Tryz.f73.body.isNone = false ∧ (Tryz.f73.name == "runtime.NumGoroutine") = false := ⟨Tryz.func73, by kernel_rfl, by kernel_rfl⟩
theorem fk74 : Tryz.prog.funcs[74]? = some Tryz.f74 ∧ Tryz.f74.body.isNone = false ∧ (Tryz.f74.name == "runtime.NumGoroutine") = false := ⟨Tryz.func74, by kernel_rfl, by kernel_rfl⟩
theorem fk75 : Tryz.prog.funcs[75]? = some Tryz.f75 ∧ Tryz.f75.body.isNone = false ∧ (Tryz.f75.name == "runtime.NumGoroutine") = false := ⟨Tryz.func75, by kernel_rfl, by kernel_rfl⟩
theorem fk76 : Tryz.prog.funcs[76]? = some Tryz.f76 ∧ Tryz.f76.body.isNone = false ∧ (Tryz.f76.name == "runtime.NumGoroutine") = false := ⟨Tryz.func76, by kernel_rfl, by kernel_rfl⟩
theorem fk77 : Tryz.prog.funcs[77]? = some Tryz.f77 ∧ Tryz.f77.body.isNone = false ∧ (Tryz.f77.name == "runtime.NumGoroutine") = false := ⟨Tryz.func77, by kernel_rfl, by kernel_rfl⟩
theorem fk78 : Tryz.prog.funcs[78]? = some Tryz.f78 ∧ Tryz.f78.body.isNone = false ∧ (Tryz.f78.name == "runtime.NumGoroutine") = false := ⟨Tryz.func78, by kernel_rfl, by kernel_rfl⟩
theorem fk79 : Tryz.prog.funcs[79]? = some Tryz.f79 ∧ Tryz.f79.body.isNone = false ∧ (Tryz.f79.name == "runtime.NumGoroutine") = false := ⟨Tryz.func79, by kernel_rfl, by kernel_rfl⟩
theorem fk80 : Tryz.prog.funcs[80]? = some Tryz.f80 ∧ Tryz.f80.body.isNone = false ∧ (Tryz.f80.name == "runtime.NumGoroutine") = false := ⟨Tryz.func80, by kernel_rfl, by kernel_rfl⟩
theorem fk81 : Tryz.prog.funcs[81]? = some Tryz.f81 ∧ Tryz.f81.body.isNone = false ∧ (Tryz.f81.name == "runtime.NumGoroutine") = false := ⟨Tryz.func81, by kernel_rfl, by kernel_rfl⟩
theorem fk82 : Tryz.prog.funcs[82]? = some Tryz.f82 ∧ Tryz.f82.body.isNone = false ∧ (Tryz.f82.name == "runtime.NumGoroutine") = false := ⟨Tryz.func82, by kernel_rfl, by kernel_rfl⟩
theorem fk83 : Tryz.prog.funcs[83]? = some Tryz.f83 ∧ Tryz.f83.body.isNone = false ∧ (Tryz.f83.name == "runtime.NumGoroutine") = false := ⟨Tryz.func83, by kernel_rfl, by kernel_rfl⟩
theorem fk84 : Tryz.prog.funcs[84]? = some Tryz.f84 ∧ Tryz.f84.body.isNone = false ∧ (Tryz.f84.name == "runtime.NumGoroutine") = false := ⟨Tryz.func84, by kernel_rfl, by kernel_rfl⟩
theorem fk85 : Tryz.prog.funcs[85]? = some Tryz.f85 ∧ Tryz.f85.body.isNone = false ∧ (Tryz.f85.name == "runtime.NumGoroutine") = false := ⟨Tryz.func85, by kernel_rfl, by kernel_rfl⟩
theorem fk86 : Tryz.prog.funcs[86]? = some Tryz.f86 ∧ Tryz.f86.body.isNone = false ∧ (Tryz.f86.name == "runtime.NumGoroutine") = false := ⟨Tryz.func86, by kernel_rfl, by kernel_rfl⟩
theorem fk87 : Tryz.prog.funcs[87]? = some Tryz.f87 ∧ Tryz.f87.body.isNone = false ∧ (Tryz.f87.name == "runtime.NumGoroutine") = false := ⟨Tryz.func87, by kernel_rfl, by kernel_rfl⟩
theorem fk88 : Tryz.prog.funcs[88]? = some Tryz.f88 ∧ Tryz.f88.body.isNone = false ∧ (Tryz.f88.name == "runtime.NumGoroutine") = false := ⟨Tryz.func88, by kernel_rfl, by kernel_rfl⟩
theorem fk99 : Tryz.prog.funcs[99]? = some Tryz.f99 ∧ Tryz.f99.body.isNone = false ∧ (Tryz.f99.name == "runtime.NumGoroutine") = false := ⟨Tryz.func99, by kernel_rfl, by kernel_rfl⟩
theorem fk100 : Tryz.prog.funcs[100]? = some Tryz.f100 ∧ Tryz.f100.body.isNone = false ∧ (Tryz.f100.name == "runtime.NumGoroutine") = false := ⟨Tryz.func100, by kernel_rfl, by kernel_rfl⟩
theorem fk101 : Tryz.prog.funcs[101]? = some Tryz.f101 ∧ Tryz.f101.body.isNone = false ∧ (Tryz.f101.name == "runtime.NumGoroutine") = false := ⟨Tryz.func101, by kernel_rfl, by kernel_rfl⟩
theorem fk102 : Tryz.prog.funcs[102]? = some Tryz.f102 ∧ Tryz.f102.body.isNone = false ∧ (Tryz.f102.name == "runtime.NumGoroutine") = false := ⟨Tryz.func102, by kernel_rfl, by kernel_rfl⟩
theorem fk103 : Tryz.prog.funcs[103]? = some Tryz.f103 ∧ Tryz.f103.body.isNone = false ∧ (Tryz.f103.name == "runtime.NumGoroutine") = false := ⟨Tryz.func103, by kernel_rfl, by kernel_rfl⟩
theorem fk104 : Tryz.prog.funcs[104]? = some Tryz.f104 ∧ Tryz.f104.body.isNone = false ∧ (Tryz.f104.name == "runtime.NumGoroutine") = false := ⟨Tryz.func104, by kernel_rfl, by kernel_rfl⟩
theorem fk105 : Tryz.prog.funcs[105]? = some Tryz.f105 ∧ Tryz.f105.body.isNone = false ∧ (Tryz.f105.name == "runtime.NumGoroutine") = false := ⟨Tryz.func105, by kernel_rfl, by kernel_rfl⟩
theorem fk112 : Tryz.prog.funcs[112]? = some Tryz.f112 ∧ Tryz.f112.body.isNone = false ∧ (Tryz.f112.name == "runtime.NumGoroutine") = false := ⟨Tryz.func112, by kernel_rfl, by kernel_rfl⟩
theorem fk113 : Tryz.prog.funcs[113]? = some Tryz.f113 ∧ Tryz.f113.body.isNone = false ∧ (Tryz.f113.name == "runtime.NumGoroutine") = false := ⟨Tryz.func113, by kernel_rfl, by kernel_rfl⟩
theorem fk114 : Tryz.prog.funcs[114]? = some Tryz.f114 ∧ Tryz.f114.body.isNone = false ∧ (Tryz.f114.name == "runtime.NumGoroutine") = false := ⟨Tryz.func114, by kernel_rfl, by kernel_rfl⟩
theorem fk115 : Tryz.prog.funcs[115]? = some Tryz.f115 ∧ Tryz.f115.body.isNone = false ∧ (Tryz.f115.name == "runtime.NumGoroutine") = false := ⟨Tryz.func115, by kernel_rfl, by kernel_rfl⟩
theorem fk116 : Tryz.prog.funcs[116]? = some Tryz.f116 ∧ Tryz.f116.body.isNone = false ∧ (Tryz.f116.name == "runtime.NumGoroutine") = false := ⟨Tryz.func116, by kernel_rfl, by kernel_rfl⟩
theorem fk117 : Tryz.prog.funcs[117]? = some Tryz.f117 ∧ Tryz.f117.body.isNone = false ∧ (Tryz.f117.name == "runtime.NumGoroutine") = false := ⟨Tryz.func117, by kernel_rfl, by kernel_rfl⟩
theorem fk118 : Tryz.prog.funcs[118]? = some Tryz.f118 ∧ Tryz.f118.body.isNone = false ∧ (Tryz.f118.name == "runtime.NumGoroutine") = false := ⟨Tryz.func118, by kernel_rfl, by kernel_rfl⟩
theorem fk119 : Tryz.prog.funcs[119]? = some Tryz.f119 ∧ Tryz.f119.body.isNone = false ∧ (Tryz.f119.name == "runtime.NumGoroutine") = false := ⟨Tryz.func119, by kernel_rfl, by kernel_rfl⟩
theorem fk120 : Tryz.prog.funcs[120]? = some Tryz.f120 ∧ Tryz.f120.body.isNone = false ∧ (Tryz.f120.name == "runtime.NumGoroutine") = false := ⟨Tryz.func120, by kernel_rfl, by kernel_rfl⟩
theorem fk121 : Tryz.prog.funcs[121]? = some Tryz.f121 ∧ Tryz.f121.body.isNone = false ∧ (Tryz.f121.name == "runtime.NumGoroutine") = false := ⟨Tryz.func121, by kernel_rfl, by kernel_rfl⟩
theorem fk122 : Tryz.prog.funcs[122]? = some Tryz.f122 ∧ Tryz.f122.body.isNone = false ∧ (Tryz.f122.name == "runtime.NumGoroutine") = false := ⟨Tryz.func122, by kernel_rfl, by kernel_rfl⟩
theorem fk123 : Tryz.prog.funcs[123]? = some Tryz.f123 ∧ Tryz.f123.body.isNone = false ∧ (Tryz.f123.name == "runtime.NumGoroutine") = false := ⟨Tryz.func123, by kernel_rfl, by kernel_rfl⟩
theorem fk124 : Tryz.prog.funcs[124]? = some Tryz.f124 ∧ Tryz.f124.body.isNone = false ∧ (Tryz.f124.name == "runtime.NumGoroutine") = false := ⟨Tryz.func124, by kernel_rfl, by kernel_rfl⟩
theorem fk125 : Tryz.prog.funcs[125]? = some Tryz.f125 ∧ Tryz.f125.body.isNone = false ∧ (Tryz.f125.name == "runtime.NumGoroutine") = false := ⟨Tryz.func125, by kernel_rfl, by kernel_rfl⟩
theorem fk126 : Tryz.prog.funcs[126]? = some Tryz.f126 ∧ Tryz.f126.body.isNone = false ∧ (Tryz.f126.name == "runtime.NumGoroutine") = false := ⟨Tryz.func126, by kernel_rfl, by kernel_rfl⟩
theorem fk127 : Tryz.prog.funcs[127]? = some Tryz.f127 ∧ Tryz.f127.body.isNone = false ∧ (Tryz.f127.name == "runtime.NumGoroutine") = false := ⟨Tryz.func127, by kernel_rfl, by kernel_rfl⟩
theorem fk128 : Tryz.prog.funcs[128]? = some Tryz.f128 ∧ Tryz.f128.body.isNone = false ∧ (Tryz.f128.name == "runtime.NumGoroutine") = false := ⟨Tryz.func128, by kernel_rfl, by kernel_rfl⟩
theorem fk129 : Tryz.prog.funcs[129]? = some Tryz.f129 ∧ Tryz.f129.body.isNone = false ∧ (Tryz.f129.name == "runtime.NumGoroutine") = false := ⟨Tryz.func129, by kernel_rfl, by kernel_rfl⟩
theorem fk130 : Tryz.prog.funcs[130]? = some Tryz.f130 ∧ Tryz.f130.body.isNone = false ∧ (Tryz.f130.name == "runtime.NumGoroutine") = false := ⟨Tryz.func130, by kernel_rfl, by kernel_rfl⟩
theorem fk131 : Tryz.prog.funcs[131]? = some Tryz.f131 ∧ Tryz.f131.body.isNone = false ∧ (Tryz.f131.name == "runtime.NumGoroutine") = false := ⟨Tryz.func131, by kernel_rfl, by kernel_rfl⟩
theorem fk132 : Tryz.prog.funcs[132]? = some Tryz.f132 ∧ Tryz.f132.body.isNone = false ∧ (Tryz.f132.name == "runtime.NumGoroutine") = false := ⟨Tryz.func132, by kernel_rfl, by kernel_rfl⟩
theorem fk133 : Tryz.prog.funcs[133]? = some Tryz.f133 ∧ Tryz.f133.body.isNone = false ∧ (Tryz.f133.name == "runtime.NumGoroutine") = false := ⟨Tryz.func133, by kernel_rfl, by kernel_rfl⟩
theorem fk134 : Tryz.prog.funcs[134]? = some Tryz.f134 ∧ Tryz.f134.body.isNone = false ∧ (Tryz.f134.name == "runtime.NumGoroutine") = false := ⟨Tryz.func134, by kernel_rfl, by kernel_rfl⟩
theorem fk135 : Tryz.prog.funcs[135]? = some Tryz.f135 ∧ Tryz.f135.body.isNone = false ∧ (Tryz.f135.name == "runtime.NumGoroutine") = false := ⟨Tryz.func135, by kernel_rfl, by kernel_rfl⟩
theorem fk136 : Tryz.prog.funcs[136]? = some Tryz.f136 ∧ Tryz.f136.body.isNone = false ∧ (Tryz.f136.name == "runtime.NumGoroutine") = false := ⟨Tryz.func136, by kernel_rfl, by kernel_rfl⟩
theorem fk137 : Tryz.prog.funcs[137]? = some Tryz.f137 ∧ Tryz.f137.body.isNone = false ∧ (Tryz.f137.name == "runtime.NumGoroutine") = false := ⟨Tryz.func137, by kernel_rfl, by kernel_rfl⟩
theorem fk138 : Tryz.prog.funcs[138]? = some Tryz.f138 ∧ Tryz.f138.body.isNone = false ∧ (Tryz.f138.name == "runtime.NumGoroutine") = false := ⟨Tryz.func138, by kernel_rfl, by kernel_rfl⟩
theorem fk139 : Tryz.prog.funcs[139]? = some Tryz.f139 ∧ Tryz.f139.body.isNone = false ∧ (Tryz.f139.name == "runtime.NumGoroutine") = false := ⟨Tryz.func139, by kernel_rfl, by kernel_rfl⟩
theorem fk142 : Tryz.prog.funcs[142]? = some Tryz.f142 ∧ Tryz.f142.body.isNone = false ∧ (Tryz.f142.name == "runtime.NumGoroutine") = false := ⟨Tryz.func142, by kernel_rfl, by kernel_rfl⟩
theorem fk143 : Tryz.prog.funcs[143]? = some Tryz.f143 ∧ Tryz.f143.body.isNone = false ∧ (Tryz.f143.name == "runtime.NumGoroutine") = false := ⟨Tryz.func143, by kernel_rfl, by kernel_rfl⟩
theorem fk144 : Tryz.prog.funcs[144]? = some Tryz.f144 ∧ Tryz.f144.body.isNone = false ∧ (Tryz.f144.name == "runtime.NumGoroutine") = false := ⟨Tryz.func144, by kernel_rfl, by kernel_rfl⟩
theorem fk145 : Tryz.prog.funcs[145]? = some Tryz.f145 ∧ Tryz.f145.body.isNone = false ∧ (Tryz.f145.name == "runtime.NumGoroutine") = false := ⟨Tryz.func145, by kernel_rfl, by kernel_rfl⟩
theorem fk146 : Tryz.prog.funcs[146]? = some Tryz.f146 ∧ Tryz.f146.body.isNone = false ∧ (Tryz.f146.name == "runtime.NumGoroutine") = false := ⟨Tryz.func146, by kernel_rfl, by kernel_rfl⟩
theorem fk147 : Tryz.prog.funcs[147]? = some Tryz.f147 ∧ Tryz.f147.body.isNone = false ∧ (Tryz.f147.name == "runtime.NumGoroutine") = false := ⟨Tryz.func147, by kernel_rfl, by kernel_rfl⟩
theorem fk148 : Tryz.prog.funcs[148]? = some Tryz.f148 ∧ Tryz.f148.body.isNone = false ∧ (Tryz.f148.name == "runtime.NumGoroutine") = false := ⟨Tryz.func148, by kernel_rfl, by kernel_rfl⟩
theorem fk171 : Tryz.prog.funcs[171]? = some Tryz.f171 ∧ Tryz.f171.body.isNone = false ∧ (Tryz.f171.name == "runtime.NumGoroutine") = false := ⟨Tryz.func171, by kernel_rfl, by kernel_rfl⟩
theorem fk183 : Tryz.prog.funcs[183]? = some Tryz.f183 ∧ Tryz.f183.body.isNone = false ∧ (Tryz.f183.name == "runtime.NumGoroutine") = false := ⟨Tryz.func183, by kernel_rfl, by kernel_rfl⟩
theorem fk184 : Tryz.prog.funcs[184]? = some Tryz.f184 ∧ Tryz.f184.body.isNone = false ∧ (Tryz.f184.name == "runtime.NumGoroutine") = false := ⟨Tryz.func184, by kernel_rfl, by kernel_rfl⟩
theorem fk185 : Tryz.prog.funcs[185]? = some Tryz.f185 ∧ Tryz.f185.body.isNone = false ∧ (Tryz.f185.name == "runtime.NumGoroutine") = false := ⟨Tryz.func185, by kernel_rfl, by kernel_rfl⟩
theorem fk186 : Tryz.prog.funcs[186]? = some Tryz.f186 ∧ Tryz.f186.body.isNone = false ∧ (Tryz.f186.name == "runtime.NumGoroutine") = false := ⟨Tryz.func186, by kernel_rfl, by kernel_rfl⟩
theorem fk187 : Tryz.prog.funcs[187]? = some Tryz.f187 ∧ Tryz.f187.body.isNone = false ∧ (Tryz.f187.name == "runtime.NumGoroutine") = false := ⟨Tryz.func187, by kernel_rfl, by kernel_rfl⟩
theorem fk188 : Tryz.prog.funcs[188]? = some Tryz.f188 ∧ Tryz.f188.body.isNone = false ∧ (Tryz.f188.name == "runtime.NumGoroutine") = false := ⟨Tryz.func188, by kernel_rfl, by kernel_rfl⟩
theorem fk189 : Tryz.prog.funcs[189]? = some Tryz.f189 ∧ Tryz.f189.body.isNone = false ∧ (Tryz.f189.name == "runtime.NumGoroutine") = false := ⟨Tryz.func189, by kernel_rfl, by kernel_rfl⟩
theorem fk190 : Tryz.prog.funcs[190]? = some Tryz.f190 ∧ Tryz.f190.body.isNone = false ∧ (Tryz.f190.name == "runtime.NumGoroutine") = false := ⟨Tryz.func190, by kernel_rfl, by kernel_rfl⟩
theorem fk191 : Tryz.prog.funcs[191]? = some Tryz.f191 ∧ Tryz.f191.body.isNone = false ∧ (Tryz.f191.name == "runtime.NumGoroutine") = false := ⟨Tryz.func191, by kernel_rfl, by kernel_rfl⟩
theorem fk192 : Tryz.prog.funcs[192]? = some Tryz.f192 ∧ Tryz.f192.body.isNone = false ∧ (Tryz.f192.name == "runtime.NumGoroutine") = false := ⟨Tryz.func192, by kernel_rfl, by kernel_rfl⟩
theorem fk193 : Tryz.prog.funcs[193]? = some Tryz.f193 ∧ Tryz.f193.body.isNone = false ∧ (Tryz.f193.name == "runtime.NumGoroutine") = false := ⟨Tryz.func193, by kernel_rfl, by kernel_rfl⟩
theorem fk194 : Tryz.prog.funcs[194]? = some Tryz.f194 ∧ Tryz.f194.body.isNone = false ∧ (Tryz.f194.name == "runtime.NumGoroutine") = false := ⟨Tryz.func194, by kernel_rfl, by kernel_rfl⟩
theorem fk195 : Tryz.prog.funcs[195]? = some Tryz.f195 ∧ Tryz.f195.body.isNone = false ∧ (Tryz.f195.name == "runtime.NumGoroutine") = false := ⟨Tryz.func195, by kernel_rfl, by kernel_rfl⟩
theorem fk196 : Tryz.prog.funcs[196]? = some Tryz.f196 ∧ Tryz.f196.body.isNone = false ∧ (Tryz.f196.name == "runtime.NumGoroutine") = false := ⟨Tryz.func196, by kernel_rfl, by kernel_rfl⟩
theorem fk197 : Tryz.prog.funcs[197]? = some Tryz.f197 ∧ Tryz.f197.body.isNone = false ∧ (Tryz.f197.name == "runtime.NumGoroutine") = false := ⟨Tryz.func197, by kernel_rfl, by kernel_rfl⟩
theorem fk198 : Tryz.prog.funcs[198]? = some Tryz.f198 ∧ Tryz.f198.body.isNone = false ∧ (Tryz.f198.name == "runtime.NumGoroutine") = false := ⟨Tryz.func198, by kernel_rfl, by kernel_rfl⟩
theorem fk199 : Tryz.prog.funcs[199]? = some Tryz.f199 ∧ Tryz.f199.body.isNone = false ∧ (Tryz.f199.name == "runtime.NumGoroutine") = false := ⟨Tryz.func199, by kernel_rfl, by kernel_rfl⟩
theorem fk200 : Tryz.prog.funcs[200]? = some Tryz.f200 ∧ Tryz.f200.body.isNone = false ∧ (Tryz.f200.name == "runtime.NumGoroutine") = false := ⟨Tryz.func200, by kernel_rfl, by kernel_rfl⟩
theorem fk201 : Tryz.prog.funcs[201]? = some Tryz.f201 ∧ Tryz.f201.body.isNone = false ∧ (Tryz.f201.name == "runtime.NumGoroutine") = false := ⟨Tryz.func201, by kernel_rfl, by kernel_rfl⟩
theorem fk202 : Tryz.prog.funcs[202]? = some Tryz.f202 ∧ Tryz.f202.body.isNone = false ∧ (Tryz.f202.name == "runtime.NumGoroutine") = false := ⟨Tryz.func202, by kernel_rfl, by kernel_rfl⟩
theorem fk203 : Tryz.prog.funcs[203]? = some Tryz.f203 ∧ Tryz.f203.body.isNone = false ∧ (Tryz.f203.name == "runtime.NumGoroutine") = false := ⟨Tryz.func203, by kernel_rfl, by kernel_rfl⟩
theorem fk206 : Tryz.prog.funcs[206]? = some Tryz.f206 ∧ Tryz.f206.body.isNone = false ∧ (Tryz.f206.name == "runtime.NumGoroutine") = false := ⟨Tryz.func206, by kernel_rfl, by kernel_rfl⟩
theorem fk207 : Tryz.prog.funcs[207]? = some Tryz.f207 ∧ Tryz.f207.body.isNone = false ∧ (Tryz.f207.name == "runtime.NumGoroutine") = false := ⟨Tryz.func207, by kernel_rfl, by kernel_rfl⟩
theorem fk208 : Tryz.prog.funcs[208]? = some Tryz.f208 ∧ Tryz.f208.body.isNone = false ∧ (Tryz.f208.name == "runtime.NumGoroutine") = false := ⟨Tryz.func208, by kernel_rfl, by kernel_rfl⟩
theorem fk209 : Tryz.prog.funcs[209]? = some Tryz.f209 ∧ Tryz.f209.body.isNone = false ∧ (Tryz.f209.name == "runtime.NumGoroutine") = false := ⟨Tryz.func209, by kernel_rfl, by kernel_rfl⟩
theorem fk210 : Tryz.prog.funcs[210]? = some Tryz.f210 ∧ Tryz.f210.body.isNone = false ∧ (Tryz.f210.name == "runtime.NumGoroutine") = false := ⟨Tryz.func210, by kernel_rfl, by kernel_rfl⟩
theorem fk227 : Tryz.prog.funcs[227]? = some Tryz.f227 ∧ Tryz.f227.body.isNone = false ∧ (Tryz.f227.name == "runtime.NumGoroutine") = false := ⟨Tryz.func227, by kernel_rfl, by kernel_rfl⟩
theorem fk249 : Tryz.prog.funcs[249]? = some Tryz.f249 ∧ Tryz.f249.body.isNone = false ∧ (Tryz.f249.name == "runtime.NumGoroutine") = false := ⟨Tryz.func249, by kernel_rfl, by kernel_rfl⟩
theorem fk258 : Tryz.prog.funcs[258]? = some Tryz.f258 ∧ Tryz.f258.body.isNone = false ∧ (Tryz.f258.name == "runtime.NumGoroutine") = false := ⟨Tryz.func258, by kernel_rfl, by kernel_rfl⟩
theorem fk259 : Tryz.prog.funcs[259]? = some Tryz.f259 ∧ Tryz.f259.body.isNone = false ∧ (Tryz.f259.name == "runtime.NumGoroutine") = false := ⟨Tryz.func259, by kernel_rfl, by kernel_rfl⟩
theorem fk260 : Tryz.prog.funcs[260]? = some Tryz.f260 ∧ Tryz.f260.body.isNone = false ∧ (Tryz.f260.name == "runtime.NumGoroutine") = false := ⟨Tryz.func260, by kernel_rfl, by kernel_rfl⟩
theorem fk261 : Tryz.prog.funcs[261]? = some Tryz.f261 ∧ Tryz.f261.body.isNone = false ∧ (Tryz.f261.name == "runtime.NumGoroutine") = false := ⟨Tryz.func261, by kernel_rfl, by kernel_rfl⟩
theorem fk262 : Tryz.prog.funcs[262]? = some Tryz.f262 ∧ Tryz.f262.body.isNone = false ∧ (Tryz.f262.name == "runtime.NumGoroutine") = false := ⟨Tryz.func262, by kernel_rfl, by kernel_rfl⟩
theorem fk263 : Tryz.prog.funcs[263]? = some Tryz.f263 ∧ Tryz.f263.body.isNone = false ∧ (Tryz.f263.name == "runtime.NumGoroutine") = false := ⟨Tryz.func263, by kernel_rfl, by kernel_rfl⟩
theorem fk264 : Tryz.prog.funcs[264]? = some Tryz.f264 ∧ Tryz.f264.body.isNone = false ∧ (Tryz.f264.name == "runtime.NumGoroutine") = false := ⟨Tryz.func264, by kernel_rfl, by kernel_rfl⟩
theorem fk265 : Tryz.prog.funcs[265]? = some Tryz.f265 ∧ Tryz.f265.body.isNone = false ∧ (Tryz.f265.name == "runtime.NumGoroutine") = false := ⟨Tryz.func265, by kernel_rfl, by kernel_rfl⟩
theorem fk266 : Tryz.prog.funcs[266]? = some Tryz.f266 ∧ Tryz.f266.body.isNone = false ∧ (Tryz.f266.name == "runtime.NumGoroutine") = false := ⟨Tryz.func266, by kernel_rfl, by kernel_rfl⟩
theorem fk267 : Tryz.prog.funcs[267]? = some Tryz.f267 ∧ Tryz.f267.body.isNone = false ∧ (Tryz.f267.name == "runtime.NumGoroutine") = false := ⟨Tryz.func267, by kernel_rfl, by kernel_rfl⟩
theorem fk268 : Tryz.prog.funcs[268]? = some Tryz.f268 ∧ Tryz.f268.body.isNone = false ∧ (Tryz.f268.name == "runtime.NumGoroutine") = false := ⟨Tryz.func268, by kernel_rfl, by kernel_rfl⟩
theorem fk269 : Tryz.prog.funcs[269]? = some Tryz.f269 ∧ Tryz.f269.body.isNone = false ∧ (Tryz.f269.name == "runtime.NumGoroutine") = false := ⟨Tryz.func269, by kernel_rfl, by kernel_rfl⟩
theorem fk270 : Tryz.prog.funcs[270]? = some Tryz.f270 ∧ Tryz.f270.body.isNone = false ∧ (Tryz.f270.name == "runtime.NumGoroutine") = false := ⟨Tryz.func270, by kernel_rfl, by kernel_rfl⟩
theorem fk271 : Tryz.prog.funcs[271]? = some Tryz.f271 ∧ Tryz.f271.body.isNone = false ∧ (Tryz.f271.name == "runtime.NumGoroutine") = false := ⟨Tryz.func271, by kernel_rfl, by kernel_rfl⟩
theorem fk272 : Tryz.prog.funcs[272]? = some Tryz.f272 ∧ Tryz.f272.body.isNone = false ∧ (Tryz.f272.name == "runtime.NumGoroutine") = false := ⟨Tryz.func272, by kernel_rfl, by kernel_rfl⟩
theorem fk273 : Tryz.prog.funcs[273]? = some Tryz.f273 ∧ Tryz.f273.body.isNone = false ∧ (Tryz.f273.name == "runtime.NumGoroutine") = false := ⟨Tryz.func273, by kernel_rfl, by kernel_rfl⟩
theorem fk274 : Tryz.prog.funcs[274]? = some Tryz.f274 ∧ Tryz.f274.body.isNone = false ∧ (Tryz.f274.name == "runtime.NumGoroutine") = false := ⟨Tryz.func274, by kernel_rfl, by kernel_rfl⟩
theorem fk278 : Tryz.prog.funcs[278]? = some Tryz.f278 ∧ Tryz.f278.body.isNone = false ∧ (Tryz.f278.name == "runtime.NumGoroutine") = false := ⟨Tryz.func278, by kernel_rfl, by kernel_rfl⟩
theorem fk279 : Tryz.prog.funcs[279]? = some Tryz.f279 ∧ Tryz.f279.body.isNone = false ∧ (Tryz.f279.name == "runtime.NumGoroutine") = false := ⟨Tryz.func279, by kernel_rfl, by kernel_rfl⟩
theorem fk280 : Tryz.prog.funcs[280]? = some Tryz.f280 ∧ Tryz.f280.body.isNone = false ∧ (Tryz.f280.name == "runtime.NumGoroutine") = false := ⟨Tryz.func280, by kernel_rfl, by kernel_rfl⟩
theorem fk282 : Tryz.prog.funcs[282]? = some Tryz.f282 ∧ Tryz.f282.body.isNone = false ∧ (Tryz.f282.name == "runtime.NumGoroutine") = false := ⟨Tryz.func282, by kernel_rfl, by kernel_rfl⟩
theorem fk287 : Tryz.prog.funcs[287]? = some Tryz.f287 ∧ Tryz.f287.body.isNone = false ∧ (Tryz.f287.name == "runtime.NumGoroutine") = false := ⟨Tryz.func287, by kernel_rfl, by kernel_rfl⟩
theorem fk288 : Tryz.prog.funcs[288]? = some Tryz.f288 ∧ Tryz.f288.body.isNone = false ∧ (Tryz.f288.name == "runtime.NumGoroutine") = false := ⟨Tryz.func288, by kernel_rfl, by kernel_rfl⟩
theorem fk290 : Tryz.prog.funcs[290]? = some Tryz.f290 ∧ Tryz.f290.body.isNone = false ∧ (Tryz.f290.name == "runtime.NumGoroutine") = false := ⟨Tryz.func290, by kernel_rfl, by kernel_rfl⟩
theorem fk300 : Tryz.prog.funcs[300]? = some Tryz.f300 ∧ Tryz.f300.body.isNone = false ∧ (Tryz.f300.name == "runtime.NumGoroutine") = false := ⟨Tryz.func300, by kernel_rfl, by kernel_rfl⟩
theorem fk339 : Tryz.prog.funcs[339]? = some Tryz.f339 ∧ Tryz.f339.body.isNone = false ∧ (Tryz.f339.name == "runtime.NumGoroutine") = false := ⟨Tryz.func339, by kernel_rfl, by kernel_rfl⟩
theorem fk341 : Tryz.prog.funcs[341]? = some Tryz.f341 ∧ Tryz.f341.body.isNone = false ∧ (Tryz.f341.name == "runtime.NumGoroutine") = false := ⟨Tryz.func341, by kernel_rfl, by kernel_rfl⟩
theorem fk343 : Tryz.prog.funcs[343]? = some Tryz.f343 ∧ Tryz.f343.body.isNone = false ∧ (Tryz.f343.name == "runtime.NumGoroutine") = false := ⟨Tryz.func343, by kernel_rfl, by kernel_rfl⟩
theorem fk344 : Tryz.prog.funcs[344]? = some Tryz.f344 ∧ Tryz.f344.body.isNone = false ∧ (Tryz.f344.name == "runtime.NumGoroutine") = false := ⟨Tryz.func344, by kernel_rfl, by kernel_rfl⟩
theorem fk345 : Tryz.prog.funcs[345]? = some Tryz.f345 ∧ Tryz.f345.body.isNone = false ∧ (Tryz.f345.name == "runtime.NumGoroutine") = false := ⟨Tryz.func345, by kernel_rfl, by kernel_rfl⟩
theorem fk346 : Tryz.prog.funcs[346]? = some Tryz.f346 ∧ Tryz.f346.body.isNone = false ∧ (Tryz.f346.name == "runtime.NumGoroutine") = false := ⟨Tryz.func346, by kernel_rfl, by kernel_rfl⟩
theorem fk348 : Tryz.prog.funcs[348]? = some Tryz.f348 ∧ Tryz.f348.body.isNone = false ∧ (Tryz.f348.name == "runtime.NumGoroutine") = false := ⟨Tryz.func348, by kernel_rfl, by kernel_rfl⟩
theorem fk349 : Tryz.prog.funcs[349]? = some Tryz.f349 ∧ Tryz.f349.body.isNone = false ∧ (Tryz.f349.name == "runtime.NumGoroutine") = false := ⟨Tryz.func349, by kernel_rfl, by kernel_rfl⟩
theorem fk350 : Tryz.prog.funcs[350]? = some Tryz.f350 ∧ Tryz.f350.body.isNone = false ∧ (Tryz.f350.name == "runtime.NumGoroutine") = false := ⟨Tryz.func350, by kernel_rfl, by kernel_rfl⟩
theorem fk358 : Tryz.prog.funcs[358]? = some Tryz.f358 ∧ Tryz.f358.body.isNone = false ∧ (Tryz.f358.name == "runtime.NumGoroutine") = false := ⟨Tryz.func358, by kernel_rfl, by kernel_rfl⟩
theorem fk367 : Tryz.prog.funcs[367]? = some Tryz.f367 ∧ Tryz.f367.body.isNone = false ∧ (Tryz.f367.name == "runtime.NumGoroutine") = false := ⟨Tryz.func367, by kernel_rfl, by kernel_rfl⟩
theorem fk407 : Tryz.prog.funcs[407]? = some Tryz.f407 ∧ Tryz.f407.body.isNone = false ∧ (Tryz.f407.name == "runtime.NumGoroutine") = false := ⟨Tryz.func407, by kernel_rfl, by kernel_rfl⟩
theorem fk408 : Tryz.prog.funcs[408]? = some Tryz.f408 ∧ Tryz.f408.body.isNone = false ∧ (Tryz.f408.name == "runtime.NumGoroutine") = false := ⟨Tryz.func408, by kernel_rfl, by kernel_rfl⟩
theorem fk409 : Tryz.prog.funcs[409]? = some Tryz.f409 ∧ Tryz.f409.body.isNone = false ∧ (Tryz.f409.name == "runtime.NumGoroutine") = false := ⟨Tryz.func409, by kernel_rfl, by kernel_rfl⟩
theorem fk421 : Tryz.prog.funcs[421]? = some Tryz.f421 ∧ Tryz.f421.body.isNone = false ∧ (Tryz.f421.name == "runtime.NumGoroutine") = false := ⟨Tryz.func421, by kernel_rfl, by kernel_rfl⟩
theorem fk422 : Tryz.prog.funcs[422]? = some Tryz.f422 ∧ Tryz.f422.body.isNone = false ∧ (Tryz.f422.name == "runtime.NumGoroutine") = false := ⟨Tryz.func422, by kernel_rfl, by kernel_rfl⟩
theorem fk423 : Tryz.prog.funcs[423]? = some Tryz.f423 ∧ Tryz.f423.body.isNone = false ∧ (Tryz.f423.name == "runtime.NumGoroutine") = false := ⟨Tryz.func423, by kernel_rfl, by kernel_rfl⟩
theorem fk424 : Tryz.prog.funcs[424]? = some Tryz.f424 ∧ Tryz.f424.body.isNone = false ∧ (Tryz.f424.name == "runtime.NumGoroutine") = false := ⟨Tryz.func424, by kernel_rfl, by kernel_rfl⟩
theorem fk465 : Tryz.prog.funcs[465]? = some Tryz.f465 ∧ Tryz.f465.body.isNone = false ∧ (Tryz.f465.name == "runtime.NumGoroutine") = false := ⟨Tryz.func465, by kernel_rfl, by kernel_rfl⟩
theorem fns_good : ∀ p ∈ fns, Tryz.prog.funcs[p.1]? = some p.2 ∧ p.2.body.isNone = false ∧ (p.2.name == "runtime.NumGoroutine") = false := cons_ok (fk3) (cons_ok (fk4) (cons_ok (fk5) (cons_ok (fk6) (cons_ok (fk7) (cons_ok (fk8) (cons_ok (fk9) (cons_ok (fk10) (cons_ok (fk11) (cons_ok (fk12) (cons_ok (fk13) (cons_ok (fk14) (cons_ok (fk15) (cons_ok (fk16) (cons_ok (fk17) (cons_ok (fk18) (cons_ok (fk19) (cons_ok (fk20) (cons_ok (fk21) (cons_ok (fk22) (cons_ok (fk23) (cons_ok (fk24) (cons_ok (fk25) (cons_ok (fk26) (cons_ok (fk27) (cons_ok (fk28) (cons_ok (fk29) (cons_ok (fk30) (cons_ok (fk31) (cons_ok (fk32) (cons_ok (fk33) (cons_ok (fk34) (cons_ok (fk35) (cons_ok (fk36) (cons_ok (fk37) (cons_ok (fk38) (cons_ok (fk39) (cons_ok (fk40) (cons_ok (fk41) (cons_ok (fk42) (cons_ok (fk43) (cons_ok (fk44) (cons_ok (fk45) (cons_ok (fk46) (cons_ok (fk47) (cons_ok (fk48) (cons_ok (fk49) (cons_ok (fk50) (cons_ok (fk51) (cons_ok (fk52) (cons_ok (fk53) (cons_ok (fk54) (cons_ok (fk55) (cons_ok (fk56) (cons_ok (fk57) (cons_ok (fk58) (cons_ok (fk59) (cons_ok (fk60) (cons_ok (fk61) (cons_ok (fk62) (cons_ok (fk63) (cons_ok (fk64) (cons_ok (fk65) (cons_ok (fk66) (cons_ok (fk67) (cons_ok (fk68) (cons_ok (fk69) (cons_ok (fk70) (cons_ok (fk71) (cons_ok (fk72) (cons_ok (fk73) (cons_ok (fk74) (cons_ok (fk75) (cons_ok (fk76) (cons_ok (fk77) (cons_ok (fk78) (cons_ok (fk79) (cons_ok (fk80) (cons_ok (fk81) (cons_ok (fk82) (cons_ok (fk83) (cons_ok (fk84) (cons_ok (fk85) (cons_ok (fk86) (cons_ok (fk87) (cons_ok (fk88) (cons_ok (fk99) (cons_ok (fk100) (cons_ok (fk101) (cons_ok (fk102) (cons_ok (fk103) (cons_ok (fk104) (cons_ok (fk105) (cons_ok (fk112) (cons_ok (fk113) (cons_ok (fk114) (cons_ok (fk115) (cons_ok (fk116) (cons_ok (fk117) (cons_ok (fk118) (cons_ok (fk119) (cons_ok (fk120) (cons_ok (fk121) (cons_ok (fk122) (cons_ok (fk123) (cons_ok (fk124) (cons_ok (fk125) (cons_ok (fk126) (cons_ok (fk127) (cons_ok (fk128) (cons_ok (fk129) (cons_ok (fk130) (cons_ok (fk131) (cons_ok (fk132) (cons_ok (fk133) (cons_ok (fk134) (cons_ok (fk135) (cons_ok (fk136) (cons_ok (fk137) (cons_ok (fk138) (cons_ok (fk139) (cons_ok (fk142) (cons_ok (fk143) (cons_ok (fk144) (cons_ok (fk145) (cons_ok (fk146) (cons_ok (fk147) (cons_ok (fk148) (cons_ok (fk171) (cons_ok (fk183) (cons_ok (fk184) (cons_ok (fk185) (cons_ok (fk186) (cons_ok (fk187) (cons_ok (fk188) (cons_ok (fk189) (cons_ok (fk190) (cons_ok (fk191) (cons_ok (fk192) (cons_ok (fk193) (cons_ok (fk194) (cons_ok (fk195) (cons_ok (fk196) (cons_ok (fk197) (cons_ok (fk198) (cons_ok (fk199) (cons_ok (fk200) (cons_ok (fk201) (cons_ok (fk202) (cons_ok (fk203) (cons_ok (fk206) (cons_ok (fk207) (cons_ok (fk208) (cons_ok (fk209) (cons_ok (fk210) (cons_ok (fk227) (cons_ok (fk249) (cons_ok (fk258) (cons_ok (fk259) (cons_ok (fk260) (cons_ok (fk261) (cons_ok (fk262) (cons_ok (fk263) (cons_ok (fk264) (cons_ok (fk265) (cons_ok (fk266) (cons_ok (fk267) (cons_ok (fk268) (cons_ok (fk269) (cons_ok (fk270) (cons_ok (fk271) (cons_ok (fk272) (cons_ok (fk273) (cons_ok (fk274) (cons_ok (fk278) (cons_ok (fk279) (cons_ok (fk280) (cons_ok (fk282) (cons_ok (fk287) (cons_ok (fk288) (cons_ok (fk290) (cons_ok (fk300) (cons_ok (fk339) (cons_ok (fk341) (cons_ok (fk343) (cons_ok (fk344) (cons_ok (fk345) (cons_ok (fk346) (cons_ok (fk348) (cons_ok (fk349) (cons_ok (fk350) (cons_ok (fk358) (cons_ok (fk367) (cons_ok (fk407) (cons_ok (fk408) (cons_ok (fk409) (cons_ok (fk421) (cons_ok (fk422) (cons_ok (fk423) (cons_ok (fk424) (cons_ok (fk465) (nil_ok)))))))))))))))))))))))))))))))))))))))))))))))))))))))))))))))))))))))))))))))))))))))))))))))))))))))))))))))))))))))))))))))))))))))))))))))))))))))))))))))))))))))))))))))))))))))))))))))))))))))))
def schs : List (Nat × List (Nat × List Nat)) := [(4, [(8, [0, 1, 2, 3, 4, 5, 6, 8, 7, 9, 10, 11, 12, 13, 14, 15, 16, 17, 19, 20, 18, 21, 22, 23]), (13, [0, 1, 2, 3, 4, 5, 6, 7, 8, 9, 10])]), (6, [(7, [0, 1, 2, 3, 4, 5, 6, 7, 8, 9])]), (7, [(6, [0, 1, 2, 3, 4, 5, 6, 7, 8, 9, 10, 11, 12, 13, 14, 15, 16, 17, 18, 19, 20, 21, 22, 23, 24, 25, 26, 27, 28, 29, 30, 31, 32, 33, 34, 35, 36, 37, 38]), (11, [0, 1, 2, 3, 4, 5, 6, 7, 8, 9, 10, 11, 12, 13, 14, 15, 16])]), (13, [(6, [0, 1, 2, 3, 4, 5, 7, 8, 9, 6, 10, 11, 12, 13, 14])]), (27, [(15, [0, 1, 2, 3, 5, 6, 4, 7, 8, 9, 10, 11])]), (29, [(14, [0, 1, 2, 3, 4, 5, 6, 7, 8, 9, 10, 11])]), (34, [(17, [0, 1, 2, 3, 4, 5, 6, 7, 8, 9, 10, 11, 12, 13, 14, 15, 16])]), (37, [(1, [0, 1, 2, 3, 4])]), (40, [(9, [0, 1, 2, 3, 5, 6, 7, 8, 10, 11, 12, 13, 4, 9, 14, 15, 16, 17])]), (46, [(15, [0, 1, 2, 3, 4, 5, 6, 7])]), (55, [(2, [0, 1, 2, 3, 4, 5, 6])]), (58, [(1, [0, 1, 2, 3, 4, 5, 6, 7, 8, 9, 10, 11, 12, 13, 14, 15, 16, 17, 18, 19, 20, 21, 22, 23, 24, 25, 26, 27, 28, 29, 30, 31, 32, 33, 34, 35, 36, 37])]), (59, [(6, [0, 1, 2, 3, 4, 5, 6, 7, 8, 9]), (11, [0, 1, 2, 3, 4, 5, 6, 7, 8, 9])]), (63, [(1, [0, 1, 2, 3, 4, 5, 6, 7, 8, 9, 10, 11, 12, 13, 14, 15, 16, 17, 18])]), (64, [(17, [0, 1, 2, 3, 4, 5, 6, 7, 8, 9, 10, 11, 12, 13, 14, 15, 16])]), (65, [(4, [0, 1, 2, 3, 4, 5, 6, 7, 8, 9, 10, 11, 12, 13, 14, 15, 16]), (6, [0, 1, 2, 3, 4, 5, 6, 7, 8, 9, 10, 11, 12, 13, 14, 15, 16, 17])]), (66, [(10, [0, 1, 2, 3, 4, 5, 6, 7, 8, 9, 10, 11, 12, 13, 14, 15, 16, 17, 18, 19])]), (67, [(10, [0, 1, 2, 3, 4, 5, 6, 7, 8, 9, 10, 11, 12, 13, 14, 15, 16, 17, 18, 19])]), (69, [(3, [0, 1, 2, 3, 4, 5, 6, 7, 8, 9, 10, 11, 12, 13, 14, 15])]), (70, [(5, [0, 1, 2, 3, 4, 5, 6, 7, 8, 9, 10, 11, 12, 13, 14, 15, 16, 17]), (11, [0, 1, 2, 3, 4, 5, 6, 7, 8, 9, 10, 11, 12, 13, 14, 15, 16, 17]), (16, [0, 1, 2, 3, 4, 5, 6, 7, 8, 9, 10, 11, 12]), (17, [0, 1, 2, 3, 4, 5, 6, 7, 8, 9, 10, 11, 12, 13, 14, 15, 16, 17]), (22, [0, 1, 2, 3, 4, 5, 6, 7, 8, 9, 10, 11, 12]), (23, [0, 1, 2, 3, 4, 5, 6, 7, 8, 9, 10, 11, 12, 13, 14, 15, 16, 17])]), (71, [(1, [0, 1, 2, 3, 4, 5, 6, 7, 8, 9, 10, 11, 12, 13, 14, 15]), (3, [0, 1, 2, 3, 4, 5, 6, 7, 8, 9, 10, 11, 12, 13, 14, 15, 16]), (5, [0, 1, 2, 3, 4, 5, 6, 7, 8, 9, 10, 11, 12, 13, 14, 15]), (8, [0, 1, 2, 3, 4, 5, 6, 7, 8, 9, 10, 11, 12, 13, 14, 15])]), (72, [(1, [0, 1, 2, 3, 4, 5, 6, 7, 8, 9, 10, 11, 12, 13, 14, 15]), (3, [0, 1, 2, 3, 4, 5, 6, 7, 8, 9, 10, 11, 12, 13, 14, 15]), (5, [0, 1, 2, 3, 4, 5, 6, 7, 8, 9, 10, 11, 12, 13, 14, 15, 16]), (8, [0, 1, 2, 3, 4, 5, 6, 7, 8, 9, 10, 11, 12, 13, 14, 15]), (10, [0, 1, 2, 3, 4, 5, 6, 7, 8, 9, 10, 11, 12, 13, 14, 15]), (13, [0, 1, 2, 3, 4, 5, 6, 7, 8, 9, 10, 11, 12, 13, 14, 15]), (15, [0, 1, 2, 3, 4, 5, 6, 7, 8, 9, 10, 11, 12, 13, 14, 15, 16]), (18, [0, 1, 2, 3, 4, 5, 6, 7, 8, 9, 10, 11, 12, 13, 14, 15]), (21, [0, 1, 2, 3, 4, 5, 6, 7, 8, 9, 10, 11, 12, 13, 14, 15])]), (79, [(5, [0, 1, 2, 3, 4, 5])]), (80, [(4, [0, 1, 2, 3, 4, 5, 6, 7, 8, 9, 10, 11, 12, 13, 14, 15, 16]), (6, [0, 1, 2, 3, 4, 5, 6, 7, 8, 9, 10, 11, 12, 13, 14, 15, 16, 17])]), (81, [(5, [0, 1, 2, 3, 4, 5, 6, 7, 8, 9, 10]), (11, [0, 1, 2, 3, 4, 5, 6, 7, 8, 9, 10, 11, 12, 13, 14, 15, 16, 17]), (17, [0, 1, 2, 3, 4, 5, 6, 7, 8, 9, 10, 11]), (23, [0, 1, 2, 3, 4, 5, 6, 7, 8, 9, 10, 11, 12, 13, 14, 15, 16, 17]), (35, [0, 1, 2, 3, 4, 5, 6, 7, 8, 9, 10, 11, 12, 13])]), (105, [(4, [0, 1, 2, 3, 4, 5])]), (116, [(4, [0, 1, 2, 3, 4, 5, 6, 7, 8, 9, 10, 11, 12, 13, 14, 15, 16]), (6, [0, 1, 2, 3, 4, 5, 6, 7, 8, 9, 10, 11, 12, 13, 14, 15, 16, 17])]), (117, [(10, [0, 1, 2, 3, 4, 5, 6, 7, 8, 9, 10, 11, 12, 13, 14, 15, 16, 17, 18, 19])]), (118, [(10, [0, 1, 2, 3, 4, 5, 6, 7, 8, 9, 10, 11, 12, 13, 14, 15, 16, 17, 18, 19])]), (120, [(3, [0, 1, 2, 3, 4, 5, 6, 7, 8, 9, 10, 11, 12, 13, 14, 15])]), (121, [(5, [0, 1, 2, 3, 4, 5, 6, 7, 8, 9, 10, 11, 12, 13, 14, 15, 16, 17]), (11, [0, 1, 2, 3, 4, 5, 6, 7, 8, 9, 10, 11, 12, 13, 14, 15, 16, 17]), (16, [0, 1, 2, 3, 4, 5, 6, 7, 8, 9, 10, 11, 12]), (17, [0, 1, 2, 3, 4, 5, 6, 7, 8, 9, 10, 11, 12, 13, 14, 15, 16, 17]), (22, [0, 1, 2, 3, 4, 5, 6, 7, 8, 9, 10, 11, 12]), (23, [0, 1, 2, 3, 4, 5, 6, 7, 8, 9, 10, 11, 12, 13, 14, 15, 16, 17])]), (122, [(1, [0, 1, 2, 3, 4, 5, 6, 7, 8, 9, 10, 11, 12, 13, 14, 15]), (3, [0, 1, 2, 3, 4, 5, 6, 7, 8, 9, 10, 11, 12, 13, 14, 15, 16]), (5, [0, 1, 2, 3, 4, 5, 6, 7, 8, 9, 10, 11, 12, 13, 14, 15]), (8, [0, 1, 2, 3, 4, 5, 6, 7, 8, 9, 10, 11, 12, 13, 14, 15])]), (123, [(1, [0, 1, 2, 3, 4, 5, 6, 7, 8, 9, 10, 11, 12, 13, 14, 15]), (3, [0, 1, 2, 3, 4, 5, 6, 7, 8, 9, 10, 11, 12, 13, 14, 15]), (5, [0, 1, 2, 3, 4, 5, 6, 7, 8, 9, 10, 11, 12, 13, 14, 15, 16]), (8, [0, 1, 2, 3, 4, 5, 6, 7, 8, 9, 10, 11, 12, 13, 14, 15]), (10, [0, 1, 2, 3, 4, 5, 6, 7, 8, 9, 10, 11, 12, 13, 14, 15]), (13, [0, 1, 2, 3, 4, 5, 6, 7, 8, 9, 10, 11, 12, 13, 14, 15]), (15, [0, 1, 2, 3, 4, 5, 6, 7, 8, 9, 10, 11, 12, 13, 14, 15, 16]), (18, [0, 1, 2, 3, 4, 5, 6, 7, 8, 9, 10, 11, 12, 13, 14, 15]), (21, [0, 1, 2, 3, 4, 5, 6, 7, 8, 9, 10, 11, 12, 13, 14, 15])]), (124, [(3, [0, 1, 2, 3, 4, 5, 6, 7, 8, 9, 10, 11, 12, 13, 14, 15, 16, 17, 18, 19, 20, 21]), (5, [0, 1, 2, 3, 4, 5, 6, 7, 8, 9, 10, 11, 12, 13, 14, 15]), (6, [0, 1, 2, 3, 4, 5, 6, 7, 8, 9, 10, 11, 12, 13, 14, 15, 16, 17, 18, 19, 20, 21, 22, 23])]), (126, [(1, [0, 1, 2, 3, 4, 5, 6, 7, 8, 9]), (2, [0, 1, 2, 3, 4, 5, 6, 7, 8, 9]), (3, [0, 1, 2, 3, 4, 5, 6, 7, 8, 9])]), (132, [(6, [0, 1, 2, 3, 4, 5, 6, 7, 8, 9]), (11, [0, 1, 2, 3, 4, 5, 6, 7, 8, 9])]), (145, [(1, [0, 1, 2, 3, 4, 5, 6, 7, 8, 9, 10, 11, 12, 13, 14, 15, 16])]), (193, [(3, [0, 1, 2, 3, 4, 5, 6, 7, 8, 9, 10, 11, 12, 13, 14, 15, 16, 17, 18, 19, 20, 21]), (5, [0, 1, 2, 3, 4, 5, 6, 7, 8, 9, 10, 11, 12, 13, 14, 15]), (6, [0, 1, 2, 3, 4, 5, 6, 7, 8, 9, 10, 11, 12, 13, 14, 15, 16, 17, 18, 19, 20, 21, 22, 23])]), (196, [(1, [0, 1, 2, 3, 4, 5, 6, 7, 8, 9, 10])]), (197, [(17, [0, 1, 2, 3, 4, 5, 6, 7, 8, 9, 10, 11, 12, 13, 14])]), (201, [(11, [0, 1, 3, 4, 5, 2, 6])]), (209, [(3, [0, 1, 2, 3, 4, 5, 6, 7, 8, 9, 10, 11, 12, 13, 14, 15, 16, 17, 18, 19, 20, 21, 22, 23])]), (260, [(1, [0, 1, 2, 3, 4, 5, 6, 7, 8, 9]), (2, [0, 1, 2, 3, 4, 5, 6, 7, 8, 9]), (3, [0, 1, 2, 3, 4, 5, 6, 7, 8, 9])]), (266, [(1, [0, 1, 2, 3, 4, 5, 6, 7, 8, 9, 10])]), (267, [(4, [0, 1, 2, 3, 4, 5, 6, 7, 8, 9, 10, 11, 12, 13, 14]), (6, [0, 1, 2, 3, 4, 5, 6, 7, 8, 9, 10, 11, 12, 13, 14, 15, 16, 17])]), (268, [(10, [0, 1, 2, 3, 4, 5, 6, 7, 8, 9, 10, 11, 12, 13, 14, 15, 16, 17, 18, 19])]), (269, [(10, [0, 1, 2, 3, 4, 5, 6, 7, 8, 9, 10, 11, 12, 13, 14, 15, 16, 17, 18, 19])]), (271, [(3, [0, 1, 2, 3, 4, 5, 6, 7, 8, 9, 10, 11, 12, 13, 14, 15])]), (272, [(5, [0, 1, 2, 3, 4, 5, 6, 7, 8, 9, 10, 11, 12, 13, 14, 15]), (11, [0, 1, 2, 3, 4, 5, 6, 7, 8, 9, 10, 11, 12, 13, 14, 15, 16, 17]), (16, [0, 1, 2, 3, 4, 5, 6, 7, 8, 9, 10]), (17, [0, 1, 2, 3, 4, 5, 6, 7, 8, 9, 10, 11, 12, 13, 14, 15, 16, 17]), (22, [0, 1, 2, 3, 4, 5, 6, 7, 8, 9, 10]), (23, [0, 1, 2, 3, 4, 5, 6, 7, 8, 9, 10, 11, 12, 13, 14, 15, 16, 17])]), (273, [(1, [0, 1, 2, 3, 4, 5, 6, 7, 8, 9, 10, 11, 12, 13, 14, 15]), (3, [0, 1, 2, 3, 4, 5, 6, 7, 8, 9, 10, 11, 12, 13, 14]), (5, [0, 1, 2, 3, 4, 5, 6, 7, 8, 9, 10, 11, 12, 13]), (8, [0, 1, 2, 3, 4, 5, 6, 7, 8, 9, 10, 11, 12, 13, 14, 15])]), (274, [(1, [0, 1, 2, 3, 4, 5, 6, 7, 8, 9, 10, 11, 12, 13, 14, 15]), (3, [0, 1, 2, 3, 4, 5, 6, 7, 8, 9, 10, 11, 12, 13]), (5, [0, 1, 2, 3, 4, 5, 6, 7, 8, 9, 10, 11, 12, 13, 14]), (8, [0, 1, 2, 3, 4, 5, 6, 7, 8, 9, 10, 11, 12, 13, 14, 15]), (10, [0, 1, 2, 3, 4, 5, 6, 7, 8, 9, 10, 11, 12, 13, 14, 15]), (13, [0, 1, 2, 3, 4, 5, 6, 7, 8, 9, 10, 11, 12, 13]), (15, [0, 1, 2, 3, 4, 5, 6, 7, 8, 9, 10, 11, 12, 13, 14]), (18, [0, 1, 2, 3, 4, 5, 6, 7, 8, 9, 10, 11, 12, 13, 14, 15]), (21, [0, 1, 2, 3, 4, 5, 6, 7, 8, 9, 10, 11, 12, 13, 14, 15])]), (348, [(3, [0, 1, 2, 3, 4, 5, 6, 7, 8, 9, 10, 11, 12, 13, 14, 15, 16, 17, 18, 19]), (5, [0, 1, 2, 3, 4, 5, 6, 7, 8, 9, 10, 11, 12, 13]), (6, [0, 1, 2, 3, 4, 5, 6, 7, 8, 9, 10, 11, 12, 13, 14, 15, 16, 17, 18, 19, 20, 21, 22, 23])]), (409, [(1, [0, 1, 2, 3, 4, 5, 6, 7, 8])]), (421, [(6, [0, 1, 2, 3, 4, 5, 6]), (7, [0, 1, 2, 3, 4, 5, 6, 7, 8]), (14, [0, 1, 2, 3, 4, 5, 6, 7, 8, 9, 10]), (31, [0, 1, 2, 3, 4, 5, 6, 7, 8, 9, 10])])]
def sch (f : Nat) : Nat → Option (List Nat) := match Go.Am.look schs f with | some l => Go.Am.look l | none => fun _ => none
def nolitL : List (Nat × Unit) := [(9, ())]
def litF (t : Nat) : Bool := !(Go.Am.look nolitL t).isSome
def pureL : List (Nat × Unit) := [(3, ()), (4, ()), (5, ()), (6, ()), (7, ()), (8, ()), (9, ()), (10, ()), (11, ()), (12, ()), (13, ()), (14, ()), (15, ()), (16, ()), (19, ()), (20, ()), (22, ()), (25, ()), (26, ()), (27, ()), (28, ()), (29, ()), (30, ()), (33, ()), (36, ()), (37, ()), (41, ()), (42, ()), (43, ()), (44, ()), (45, ()), (48, ()), (49, ()), (50, ()), (51, ()), (52, ()), (53, ()), (56, ()), (60, ()), (61, ()), (62, ()), (63, ()), (77, ()), (78, ()), (79, ()), (84, ()), (85, ()), (86, ()), (88, ()), (100, ()), (102, ()), (103, ()), (104, ()), (113, ()), (114, ()), (115, ()), (134, ()), (135, ()), (136, ()), (138, ()), (139, ()), (142, ()), (143, ()), (145, ()), (146, ()), (147, ()), (148, ()), (171, ()), (191, ()), (192, ()), (200, ()), (201, ()), (203, ()), (206, ()), (207, ()), (208, ()), (210, ()), (227, ()), (263, ()), (264, ()), (265, ()), (287, ()), (288, ()), (290, ()), (300, ())]
def pureF (f : Nat) : Bool := (Go.Am.look pureL f).isSome
theorem sk3 : (match Tryz.f3.body with | some c => schsOK litF pureF (sch 3) c | none => true) = true := by kernel_rfl
theorem sk4 : (match Tryz.f4.body with | some c => schsOK litF pureF (sch 4) c | none => true) = true := by kernel_rfl
theorem sk5 : (match Tryz.f5.body with | some c => schsOK litF pureF (sch 5) c | none => true) = true := by kernel_rfl
theorem sk6 : (match Tryz.f6.body with | some c => schsOK litF pureF (sch 6) c | none => true) = true := by kernel_rfl
theorem sk7 : (match Tryz.f7.body with | some c => schsOK litF pureF (sch 7) c | none => true) = true := by kernel_rfl
theorem sk8 : (match Tryz.f8.body with | some c => schsOK litF pureF (sch 8) c | none => true) = true := by kernel_rfl
theorem sk9 : (match Tryz.f9.body with | some c => schsOK litF pureF (sch 9) c | none => true) = true := by kernel_rfl
theorem sk10 : (match Tryz.f10.body with | some c => schsOK litF pureF (sch 10) c | none => true) = true := by kernel_rfl
theorem sk11 : (match Tryz.f11.body with | some c => schsOK litF pureF (sch 11) c | none => true) = true := by kernel_rfl
theorem sk12 : (match Tryz.f12.body with | some c => schsOK litF pureF (sch 12) c | none => true) = true := by kernel_rfl
theorem sk13 : (match Tryz.f13.body with | some c => schsOK litF pureF (sch 13) c | none => true) = true := by kernel_rfl
theorem sk14 : (match Tryz.f14.body with | some c => schsOK litF pureF (sch 14) c | none => true) = true := by kernel_rfl
theorem sk15 : (match Tryz.f15.body with | some c => schsOK litF pureF (sch 15) c | none => true) = true := by kernel_rfl
theorem sk16 : (match Tryz.f16.body with | some c => schsOK litF pureF (sch 16) c | none => true) = true := by kernel_rfl
theorem sk17 : (match Tryz.f17.body with | some c => schsOK litF pureF (sch 17) c | none => true) = true := by kernel_rfl
theorem sk18 : (match Tryz.f18.body with | some c => schsOK litF pureF (sch 18) c | none => true) = true := by kernel_rfl
theorem sk19 : (match Tryz.f19.body with | some c => schsOK litF pureF (sch 19) c | none => true) = true := by kernel_rfl
theorem sk20 : (match Tryz.f20.body with | some c => schsOK litF pureF (sch 20) c | none => true) = true := by kernel_rfl
theorem sk21 : (match Tryz.f21.body with | some c => schsOK litF pureF (sch 21) c | none => true) = true := by kernel_rfl
theorem sk22 : (match Tryz.f22.body with | some c => schsOK litF pureF (sch 22) c | none => true) = true := by kernel_rfl
theorem sk23 : (match Tryz.f23.body with | some c => schsOK litF pureF (sch 23) c | none => true) = true := by kernel_rfl
theorem sk24 : (match Tryz.f24.body with | some c => schsOK litF pureF (sch 24) c | none => true) = true := by kernel_rfl
theorem sk25 : (match Tryz.f25.body with | some c => schsOK litF pureF (sch 25) c | none => true) = true := by kernel_rfl
theorem sk26 : (match Tryz.f26.body with | some c => schsOK litF pureF (sch 26) c | none => true) = true := by kernel_rfl
theorem sk27 : (match Tryz.f27.body with | some c => schsOK litF pureF (sch 27) c | none => true) = true := by kernel_rfl
theorem sk28 : (match Tryz.f28.body with | some c => schsOK litF pureF (sch 28) c | none => true) = true := by kernel_rfl
theorem sk29 : (match Tryz.f29.body with | some c => schsOK litF pureF (sch 29) c | none => true) = true := by kernel_rfl
theorem sk30 : (match Tryz.f30.body with | some c => schsOK litF pureF (sch 30) c | none => true) = true := by kernel_rfl
theorem sk31 : (match Tryz.f31.body with | some c => schsOK litF pureF (sch 31) c | none => true) = true := by kernel_rfl
theorem sk32 : (match Tryz.f32.body with | some c => schsOK litF pureF (sch 32) c | none => true) = true := by kernel_rfl
theorem sk33 : (match Tryz.f33.body with | some c => schsOK litF pureF (sch 33) c | none => true) = true := by kernel_rfl
theorem sk34 : (match Tryz.f34.body with | some c => schsOK litF pureF (sch 34) c | none => true) = true := by kernel_rfl
theorem sk35 : (match Tryz.f35.body with | some c => schsOK litF pureF (sch 35) c | none => true) = true := by kernel_rfl
theorem sk36 : (match Tryz.f36.body with | some c => schsOK litF pureF (sch 36) c | none => true) = true := by kernel_rfl
theorem sk37 : (match Tryz.f37.body with | some c => schsOK litF pureF (sch 37) c | none => true) = true := by kernel_rfl
theorem sk38 : (match Tryz.f38.body with | some c => schsOK litF pureF (sch 38) c | none => true) = true := by kernel_rfl
theorem sk39 : (match Tryz.f39.body with | some c => schsOK litF pureF (sch 39) c | none => true) = true := by kernel_rfl
theorem sk40 : (match Tryz.f40.body with | some c => schsOK litF pureF (sch 40) c | none => true) = true := by kernel_rfl
theorem sk41 : (match Tryz.f41.body with | some c => schsOK litF pureF (sch 41) c | none => true) = true := by kernel_rfl
theorem sk42 : (match Tryz.f42.body with | some c => schsOK litF pureF (sch 42) c | none => true) = true := by kernel_rfl
theorem sk43 : (match Tryz.f43.body with | some c => schsOK litF pureF (sch 43) c | none => true) = true := by kernel_rfl
theorem sk44 : (match Tryz.f44.body with | some c => schsOK litF pureF (sch 44) c | none => true) = true := by kernel_rfl
theorem sk45 : (match Tryz.f45.body with | some c => schsOK litF pureF (sch 45) c | none => true) = true := by kernel_rfl
theorem sk46 : (match Tryz.f46.body with | some c => schsOK litF pureF (sch 46) c | none => true) = true := by kernel_rfl
theorem sk47 : (match Tryz.f47.body with | some c => schsOK litF pureF (sch 47) c | none => true) = true := by kernel_rfl
theorem sk48 : (match Tryz.f48.body with | some c => schsOK litF pureF (sch 48) c | none => true) = true := by kernel_rfl
theorem sk49 : (match Tryz.f49.body with | some c => schsOK litF pureF (sch 49) c | none => true) = true := by kernel_rfl
theorem sk50 : (match Tryz.f50.body with | some c => schsOK litF pureF (sch 50) c | none => true) = true := by kernel_rfl
theorem sk51 : (match Tryz.f51.body with | some c => schsOK litF pureF (sch 51) c | none => true) = true := by kernel_rfl
theorem sk52 : (match Tryz.f52.body with | some c => schsOK litF pureF (sch 52) c | none => true) = true := by kernel_rfl
theorem sk53 : (match Tryz.f53.body with | some c => schsOK litF pureF (sch 53) c | none => true) = true := by kernel_rfl
theorem sk54 : (match Tryz.f54.body with | some c => schsOK litF pureF (sch 54) c | none => true) = true := by kernel_rfl
theorem sk55 : (match Tryz.f55.body with | some c => schsOK litF pureF (sch 55) c | none => true) = true := by kernel_rfl
theorem sk56 : (match Tryz.f56.body with | some c => schsOK litF pureF (sch 56) c | none => true) = true := by kernel_rfl
theorem sk57 : (match Tryz.f57.body with | some c => schsOK litF pureF (sch 57) c | none => true) = true := by kernel_rfl
theorem sk58 : (match Tryz.f58.body with | some c => schsOK litF pureF (sch 58) c | none => true) = true := by kernel_rfl
theorem sk59 : (match Tryz.f59.body with | some c => schsOK litF pureF (sch 59) c | none => true) = true := by kernel_rfl
theorem sk60 : (match Tryz.f60.body with | some c => schsOK litF pureF (sch 60) c | none => true) = true := by kernel_rfl
theorem sk61 : (match Tryz.f61.body with | some c => schsOK litF pureF (sch 61) c | none => true) = true := by kernel_rfl
theorem sk62 : (match Tryz.f62.body with | some c => schsOK litF pureF (sch 62) c | none => true) = true := by kernel_rfl
theorem sk63 : (match Tryz.f63.body with | some c => schsOK litF pureF (sch 63) c | none => true) = true := by kernel_rfl
theorem sk64 : (match Tryz.f64.body with | some c => schsOK litF pureF (sch 64) c | none => true) = true := by kernel_rfl
theorem sk65 : (match Tryz.f65.body with | some c => schsOK litF pureF (sch 65) c | none => true) = true := by kernel_rfl
theorem sk66 : (match Tryz.f66.body with | some c => schsOK litF pureF (sch 66) c | none => true) = true := by kernel_rfl
theorem sk67 : (match Tryz.f67.body with | some c => schsOK litF pureF (sch 67) c | none => true) = true := by kernel_rfl
theorem sk68 : (match Tryz.f68.body with | some c => schsOK litF pureF (sch 68) c | none => true) = true := by kernel_rfl
theorem sk69 : (match Tryz.f69.body with | some c => schsOK litF pureF (sch 69) c | none => true) = true := by kernel_rfl
theorem sk70 : (match Tryz.f70.body with | some c => schsOK litF pureF (sch 70) c | none => true) = true := by kernel_rfl
theorem sk71 : (match Tryz.f71.body with | some c => schsOK litF pureF (sch 71) c | none => true) = true := by kernel_rfl
theorem sk72 : (match Tryz.f72.body with | some c => schsOK litF pureF (sch 72) c | none => true) = true := by kernel_rfl
theorem sk73 : (match Tryz.f73.body with | some c => schsOK litF pureF (sch 73) c | none => true) = true := by kernel_rfl
theorem sk74 : (match Tryz.f74.body with | some c => schsOK litF pureF (sch 74) c | none => true) = true := by kernel_rfl
theorem sk75 : (match Tryz.f75.body with | some c => schsOK litF pureF (sch 75) c | none => true) = true := by kernel_rfl
theorem sk76 : (match Tryz.f76.body with | some c => schsOK litF pureF (sch 76) c | none => true) = true := by kernel_rfl
theorem sk77 : (match Tryz.f77.body with | some c => schsOK litF pureF (sch 77) c | none => true) = true := by kernel_rfl
theorem sk78 : (match Tryz.f78.body with | some c => schsOK litF pureF (sch 78) c | none => true) = true := by kernel_rfl
theorem sk79 : (match Tryz.f79.body with | some c => schsOK litF pureF (sch 79) c | none => true) = true := by kernel_rfl
theorem sk80 : (match Tryz.f80.body with | some c => schsOK litF pureF (sch 80) c | none => true) = true := by kernel_rfl
theorem sk81 : (match Tryz.f81.body with | some c => schsOK litF pureF (sch 81) c | none => true) = true := by kernel_rfl
theorem sk82 : (match Tryz.f82.body with | some c => schsOK litF pureF (sch 82) c | none => true) = true := by kernel_rfl
theorem sk83 : (match Tryz.f83.body with | some c => schsOK litF pureF (sch 83) c | none => true) = true := by kernel_rfl
theorem sk84 : (match Tryz.f84.body with | some c => schsOK litF pureF (sch 84) c | none => true) = true := by kernel_rfl
theorem sk85 : (match Tryz.f85.body with | some c => schsOK litF pureF (sch 85) c | none => true) = true := by kernel_rfl
theorem sk86 : (match Tryz.f86.body with | some c => schsOK litF pureF (sch 86) c | none => true) = true := by kernel_rfl
theorem sk87 : (match Tryz.f87.body with | some c => schsOK litF pureF (sch 87) c | none => true) = true := by kernel_rfl
theorem sk88 : (match Tryz.f88.body with | some c => schsOK litF pureF (sch 88) c | none => true) = true := by kernel_rfl
theorem sk99 : (match Tryz.f99.body with | some c => schsOK litF pureF (sch 99) c | none => true) = true := by kernel_rfl
theorem sk100 : (match Tryz.f100.body with | some c => schsOK litF pureF (sch 100) c | none => true) = true := by kernel_rfl
theorem sk101 : (match Tryz.f101.body with | some c => schsOK litF pureF (sch 101) c | none => true) = true := by kernel_rfl
theorem sk102 : (match Tryz.f102.body with | some c => schsOK litF pureF (sch 102) c | none => true) = true := by kernel_rfl
theorem sk103 : (match Tryz.f103.body with | some c => schsOK litF pureF (sch 103) c | none => true) = true := by kernel_rfl
theorem sk104 : (match Tryz.f104.body with | some c => schsOK litF pureF (sch 104) c | none => true) = true := by kernel_rfl
theorem sk105 : (match Tryz.f105.body with | some c => schsOK litF pureF (sch 105) c | none => true) = true := by kernel_rfl
theorem sk112 : (match Tryz.f112.body with | some c => schsOK litF pureF (sch 112) c | none => true) = true := by kernel_rfl
theorem sk113 : (match Tryz.f113.body with | some c => schsOK litF pureF (sch 113) c | none => true) = true := by kernel_rfl
theorem sk114 : (match Tryz.f114.body with | some c => schsOK litF pureF (sch 114) c | none => true) = true := by kernel_rfl
theorem sk115 : (match Tryz.f115.body with | some c => schsOK litF pureF (sch 115) c | none => true) = true := by kernel_rfl
theorem sk116 : (match Tryz.f116.body with | some c => schsOK litF pureF (sch 116) c | none => true) = true := by kernel_rfl
theorem sk117 : (match Tryz.f117.body with | some c => schsOK litF pureF (sch 117) c | none => true) = true := by kernel_rfl
theorem sk118 : (match Tryz.f118.body with | some c => schsOK litF pureF (sch 118) c | none => true) = true := by kernel_rfl
theorem sk119 : (match Tryz.f119.body with | some c => schsOK litF pureF (sch 119) c | none => true) = true := by kernel_rfl
theorem sk120 : (match Tryz.f120.body with | some c => schsOK litF pureF (sch 120) c | none => true) = true := by kernel_rfl
theorem sk121 : (match Tryz.f121.body with | some c => schsOK litF pureF (sch 121) c | none => true) = true := by kernel_rfl
theorem sk122 : (match Tryz.f122.body with | some c => schsOK litF pureF (sch 122) c | none => true) = true := by kernel_rfl
theorem sk123 : (match Tryz.f123.body with | some c => schsOK litF pureF (sch 123) c | none => true) = true := by kernel_rfl
theorem sk124 : (match Tryz.f124.body with | some c => schsOK litF pureF (sch 124) c | none => true) = true := by kernel_rfl
theorem sk125 : (match Tryz.f125.body with | some c => schsOK litF pureF (sch 125) c | none => true) = true := by kernel_rfl
theorem sk126 : (match Tryz.f126.body with | some c => schsOK litF pureF (sch 126) c | none => true) = true := by kernel_rfl
theorem sk127 : (match Tryz.f127.body with | some c => schsOK litF pureF (sch 127) c | none => true) = true := by kernel_rfl
theorem sk128 : (match Tryz.f128.body with | some c => schsOK litF pureF (sch 128) c | none => true) = true := by kernel_rfl
theorem sk129 : (match Tryz.f129.body with | some c => schsOK litF pureF (sch 129) c | none => true) = true := by kernel_rfl
theorem sk130 : (match Tryz.f130.body with | some c => schsOK litF pureF (sch 130) c | none => true) = true := by kernel_rfl
theorem sk131 : (match Tryz.f131.body with | some c => schsOK litF pureF (sch 131) c | none => true) = true := by kernel_rfl
theorem sk132 : (match Tryz.f132.body with | some c => schsOK litF pureF (sch 132) c | none => true) = true := by kernel_rfl
theorem sk133 : (match Tryz.f133.body with | some c => schsOK litF pureF (sch 133) c | none => true) = true := by kernel_rfl
theorem sk134 : (match Tryz.f134.body with | some c => schsOK litF pureF (sch 134) c | none => true) = true := by kernel_rfl
theorem sk135 : (match Tryz.f135.body with | some c => schsOK litF pureF (sch 135) c | none => true) = true := by kernel_rfl
theorem sk136 : (match Tryz.f136.body with | some c => schsOK litF pureF (sch 136) c | none => true) = true := by kernel_rfl
theorem sk137 : (match Tryz.f137.body with | some c => schsOK litF pureF (sch 137) c | none => true) = true := by kernel_rfl
theorem sk138 : (match Tryz.f138.body with | some c => schsOK litF pureF (sch 138) c | none => true) = true := by kernel_rfl
theorem sk139 : (match Tryz.f139.body with | some c => schsOK litF pureF (sch 139) c | none => true) = true := by kernel_rfl
theorem sk142 : (match Tryz.f142.body with | some c => schsOK litF pureF (sch 142) c | none => true) = true := by kernel_rfl
theorem sk143 : (match Tryz.f143.body with | some c => schsOK litF pureF (sch 143) c | none => true) = true := by kernel_rfl
theorem sk144 : (match Tryz.f144.body with | some c => schsOK litF pureF (sch 144) c | none => true) = true := by kernel_rfl
theorem sk145 : (match Tryz.f145.body with | some c => schsOK litF pureF (sch 145) c | none => true) = true := by kernel_rfl
theorem sk146 : (match Tryz.f146.body with | some c => schsOK litF pureF (sch 146) c | none => true) = true := by kernel_rfl
theorem sk147 : (match Tryz.f147.body with | some c => schsOK litF pureF (sch 147) c | none => true) = true := by kernel_rfl
theorem sk148 : (match Tryz.f148.body with | some c => schsOK litF pureF (sch 148) c | none => true) = true := by kernel_rfl
theorem sk171 : (match Tryz.f171.body with | some c => schsOK litF pureF (sch 171) c | none => true) = true := by kernel_rfl
theorem sk183 : (match Tryz.f183.body with | some c => schsOK litF pureF (sch 183) c | none => true) = true := by kernel_rfl
theorem sk184 : (match Tryz.f184.body with | some c => schsOK litF pureF (sch 184) c | none => true) = true := by kernel_rfl
theorem sk185 : (match Tryz.f185.body with | some c => schsOK litF pureF (sch 185) c | none => true) = true := by kernel_rfl
theorem sk186 : (match Tryz.f186.body with | some c => schsOK litF pureF (sch 186) c | none => true) = true := by kernel_rfl
theorem sk187 : (match Tryz.f187.body with | some c => schsOK litF pureF (sch 187) c | none => true) = true := by kernel_rfl
theorem sk188 : (match Tryz.f188.body with | some c => schsOK litF pureF (sch 188) c | none => true) = true := by kernel_rfl
theorem sk189 : (match Tryz.f189.body with | some c => schsOK litF pureF (sch 189) c | none => true) = true := by kernel_rfl
theorem sk190 : (match Tryz.f190.body with | some c => schsOK litF pureF (sch 190) c | none => true) = true := by kernel_rfl
theorem sk191 : (match Tryz.f191.body with | some c => schsOK litF pureF (sch 191) c | none => true) = true := by kernel_rfl
theorem sk192 : (match Tryz.f192.body with | some c => schsOK litF pureF (sch 192) c | none => true) = true := by kernel_rfl
theorem sk193 : (match Tryz.f193.body with | some c => schsOK litF pureF (sch 193) c | none => true) = true := by kernel_rfl
theorem sk194 : (match Tryz.f194.body with | some c => schsOK litF pureF (sch 194) c | none => true) = true := by kernel_rfl
theorem sk195 : (match Tryz.f195.body with | some c => schsOK litF pureF (sch 195) c | none => true) = true := by kernel_rfl
theorem sk196 : (match Tryz.f196.body with | some c => schsOK litF pureF (sch 196) c | none => true) = true := by kernel_rfl
theorem sk197 : (match Tryz.f197.body with | some c => schsOK litF pureF (sch 197) c | none => true) = true := by kernel_rfl
theorem sk198 : (match Tryz.f198.body with | some c => schsOK litF pureF (sch 198) c | none => true) = true := by kernel_rfl
theorem sk199 : (match Tryz.f199.body with | some c => schsOK litF pureF (sch 199) c | none => true) = true := by kernel_rfl
theorem sk200 : (match Tryz.f200.body with | some c => schsOK litF pureF (sch 200) c | none => true) = true := by kernel_rfl
theorem sk201 : (match Tryz.f201.body with | some c => schsOK litF pureF (sch 201) c | none => true) = true := by kernel_rfl
theorem sk202 : (match Tryz.f202.body with | some c => schsOK litF pureF (sch 202) c | none => true) = true := by kernel_rfl
theorem sk203 : (match Tryz.f203.body with | some c => schsOK litF pureF (sch 203) c | none => true) = true := by kernel_rfl
theorem sk206 : (match Tryz.f206.body with | some c => schsOK litF pureF (sch 206) c | none => true) = true := by kernel_rfl
theorem sk207 : (match Tryz.f207.body with | some c => schsOK litF pureF (sch 207) c | none => true) = true := by kernel_rfl
theorem sk208 : (match Tryz.f208.body with | some c => schsOK litF pureF (sch 208) c | none => true) = true := by kernel_rfl
theorem sk209 : (match Tryz.f209.body with | some c => schsOK litF pureF (sch 209) c | none => true) = true := by kernel_rfl
theorem sk210 : (match Tryz.f210.body with | some c => schsOK litF pureF (sch 210) c | none => true) = true := by kernel_rfl
theorem sk227 : (match Tryz.f227.body with | some c => schsOK litF pureF (sch 227) c | none => true) = true := by kernel_rfl
theorem sk249 : (match Tryz.f249.body with | some c => schsOK litF pureF (sch 249) c | none => true) = true := by kernel_rfl
theorem sk258 : (match Tryz.f258.body with | some c => schsOK litF pureF (sch 258) c | none => true) = true := by kernel_rfl
theorem sk259 : (match Tryz.f259.body with | some c => schsOK litF pureF (sch 259) c | none => true) = true := by kernel_rfl
theorem sk260 : (match Tryz.f260.body with | some c => schsOK litF pureF (sch 260) c | none => true) = true := by kernel_rfl
theorem sk261 : (match Tryz.f261.body with | some c => schsOK litF pureF (sch 261) c | none => true) = true := by kernel_rfl
theorem sk262 : (match Tryz.f262.body with | some c => schsOK litF pureF (sch 262) c | none => true) = true := by kernel_rfl
theorem sk263 : (match Tryz.f263.body with | some c => schsOK litF pureF (sch 263) c | none => true) = true := by kernel_rfl
theorem sk264 : (match Tryz.f264.body with | some c => schsOK litF pureF (sch 264) c | none => true) = true := by kernel_rfl
theorem sk265 : (match Tryz.f265.body with | some c => schsOK litF pureF (sch 265) c | none => true) = true := by kernel_rfl
theorem sk266 : (match Tryz.f266.body with | some c => schsOK litF pureF (sch 266) c | none => true) = true := by kernel_rfl
theorem sk267 : (match Tryz.f267.body with | some c => schsOK litF pureF (sch 267) c | none => true) = true := by kernel_rfl
theorem sk268 : (match Tryz.f268.body with | some c => schsOK litF pureF (sch 268) c | none => true) = true := by kernel_rfl
theorem sk269 : (match Tryz.f269.body with | some c => schsOK litF pureF (sch 269) c | none => true) = true := by kernel_rfl
theorem sk270 : (match Tryz.f270.body with | some c => schsOK litF pureF (sch 270) c | none => true) = true := by kernel_rfl
theorem sk271 : (match Tryz.f271.body with | some c => schsOK litF pureF (sch 271) c | none => true) = true := by kernel_rfl
theorem sk272 : (match Tryz.f272.body with | some c => schsOK litF pureF (sch 272) c | none => true) = true := by kernel_rfl
theorem sk273 : (match Tryz.f273.body with | some c => schsOK litF pureF (sch 273) c | none => true) = true := by kernel_rfl
theorem sk274 : (match Tryz.f274.body with | some c => schsOK litF pureF (sch 274) c | none => true) = true := by kernel_rfl
theorem sk278 : (match Tryz.f278.body with | some c => schsOK litF pureF (sch 278) c | none => true) = true := by kernel_rfl
theorem sk279 : (match Tryz.f279.body with | some c => schsOK litF pureF (sch 279) c | none => true) = true := by kernel_rfl
theorem sk280 : (match Tryz.f280.body with | some c => schsOK litF pureF (sch 280) c | none => true) = true := by kernel_rfl
theorem sk282 : (match Tryz.f282.body with | some c => schsOK litF pureF (sch 282) c | none => true) = true := by kernel_rfl
theorem sk287 : (match Tryz.f287.body with | some c => schsOK litF pureF (sch 287) c | none => true) = true := by kernel_rfl
theorem sk288 : (match Tryz.f288.body with | some c => schsOK litF pureF (sch 288) c | none => true) = true := by kernel_rfl
theorem sk290 : (match Tryz.f290.body with | some c => schsOK litF pureF (sch 290) c | none => true) = true := by kernel_rfl
theorem sk300 : (match Tryz.f300.body with | some c => schsOK litF pureF (sch 300) c | none => true) = true := by kernel_rfl
theorem sk339 : (match Tryz.f339.body with | some c => schsOK litF pureF (sch 339) c | none => true) = true := by kernel_rfl
theorem sk341 : (match Tryz.f341.body with | some c => schsOK litF pureF (sch 341) c | none => true) = true := by kernel_rfl
theorem sk343 : (match Tryz.f343.body with | some c => schsOK litF pureF (sch 343) c | none => true) = true := by kernel_rfl
theorem sk344 : (match Tryz.f344.body with | some c => schsOK litF pureF (sch 344) c | none => true) = true := by kernel_rfl
theorem sk345 : (match Tryz.f345.body with | some c => schsOK litF pureF (sch 345) c | none => true) = true := by kernel_rfl
theorem sk346 : (match Tryz.f346.body with | some c => schsOK litF pureF (sch 346) c | none => true) = true := by kernel_rfl
theorem sk348 : (match Tryz.f348.body with | some c => schsOK litF pureF (sch 348) c | none => true) = true := by kernel_rfl
theorem sk349 : (match Tryz.f349.body with | some c => schsOK litF pureF (sch 349) c | none => true) = true := by kernel_rfl
theorem sk350 : (match Tryz.f350.body with | some c => schsOK litF pureF (sch 350) c | none => true) = true := by kernel_rfl
theorem sk358 : (match Tryz.f358.body with | some c => schsOK litF pureF (sch 358) c | none => true) = true := by kernel_rfl
theorem sk367 : (match Tryz.f367.body with | some c => schsOK litF pureF (sch 367) c | none => true) = true := by kernel_rfl
theorem sk407 : (match Tryz.f407.body with | some c => schsOK litF pureF (sch 407) c | none => true) = true := by kernel_rfl
theorem sk408 : (match Tryz.f408.body with | some c => schsOK litF pureF (sch 408) c | none => true) = true := by kernel_rfl
theorem sk409 : (match Tryz.f409.body with | some c => schsOK litF pureF (sch 409) c | none => true) = true := by kernel_rfl
theorem sk421 : (match Tryz.f421.body with | some c => schsOK litF pureF (sch 421) c | none => true) = true := by kernel_rfl
theorem sk422 : (match Tryz.f422.body with | some c => schsOK litF pureF (sch 422) c | none => true) = true := by kernel_rfl
theorem sk423 : (match Tryz.f423.body with | some c => schsOK litF pureF (sch 423) c | none => true) = true := by kernel_rfl
theorem sk424 : (match Tryz.f424.body with | some c => schsOK litF pureF (sch 424) c | none => true) = true := by kernel_rfl
theorem sk465 : (match Tryz.f465.body with | some c => schsOK litF pureF (sch 465) c | none => true) = true := by kernel_rfl
theorem schs_good : ∀ p ∈ fns, (match p.2.body with | some c => schsOK litF pureF (sch p.1) c | none => true) = true := cons_ok (sk3) (cons_ok (sk4) (cons_ok (sk5) (cons_ok (sk6) (cons_ok (sk7) (cons_ok (sk8) (cons_ok (sk9) (cons_ok (sk10) (cons_ok (sk11) (cons_ok (sk12) (cons_ok (sk13) (cons_ok (sk14) (cons_ok (sk15) (cons_ok (sk16) (cons_ok (sk17) (cons_ok (sk18) (cons_ok (sk19) (cons_ok (sk20) (cons_ok (sk21) (cons_ok (sk22) (cons_ok (sk23) (cons_ok (sk24) (cons_ok (sk25) (cons_ok (sk26) (cons_ok (sk27) (cons_ok (sk28) (cons_ok (sk29) (cons_ok (sk30) (cons_ok (sk31) (cons_ok (sk32) (cons_ok (sk33) (cons_ok (sk34) (cons_ok (sk35) (cons_ok (sk36) (cons_ok (sk37) (cons_ok (sk38) (cons_ok (sk39) (cons_ok (sk40) (cons_ok (sk41) (cons_ok (sk42) (cons_ok (sk43) (cons_ok (sk44) (cons_ok (sk45) (cons_ok (sk46) (cons_ok (sk47) (cons_ok (sk48) (cons_ok (sk49) (cons_ok (sk50) (cons_ok (sk51) (cons_ok (sk52) (cons_ok (sk53) (cons_ok (sk54) (cons_ok (sk55) (cons_ok (sk56) (cons_ok (sk57) (cons_ok (sk58) (cons_ok (sk59) (cons_ok (sk60) (cons_ok (sk61) (cons_ok (sk62) (cons_ok (sk63) (cons_ok (sk64) (cons_ok (sk65) (cons_ok (sk66) (cons_ok (sk67) (cons_ok (sk68) (cons_ok (sk69) (cons_ok (sk70) (cons_ok (sk71) (cons_ok (sk72) (cons_ok (sk73) (cons_ok (sk74) (cons_ok (sk75) (cons_ok (sk76) (cons_ok (sk77) (cons_ok (sk78) (cons_ok (sk79) (cons_ok (sk80) (cons_ok (sk81) (cons_ok (sk82) (cons_ok (sk83) (cons_ok (sk84) (cons_ok (sk85) (cons_ok (sk86) (cons_ok (sk87) (cons_ok (sk88) (cons_ok (sk99) (cons_ok (sk100) (cons_ok (sk101) (cons_ok (sk102) (cons_ok (sk103) (cons_ok (sk104) (cons_ok (sk105) (cons_ok (sk112) (cons_ok (sk113) (cons_ok (sk114) (cons_ok (sk115) (cons_ok (sk116) (cons_ok (sk117) (cons_ok (sk118) (cons_ok (sk119) (cons_ok (sk120) (cons_ok (sk121) (cons_ok (sk122) (cons_ok (sk123) (cons_ok (sk124) (cons_ok (sk125) (cons_ok (sk126) (cons_ok (sk127) (cons_ok (sk128) (cons_ok (sk129) (cons_ok (sk130) (cons_ok (sk131) (cons_ok (sk132) (cons_ok (sk133) (cons_ok (sk134) (cons_ok (sk135) (cons_ok (sk136) (cons_ok (sk137) (cons_ok (sk138) (cons_ok (sk139) (cons_ok (sk142) (cons_ok (sk143) (cons_ok (sk144) (cons_ok (sk145) (cons_ok (sk146) (cons_ok (sk147) (cons_ok (sk148) (cons_ok (sk171) (cons_ok (sk183) (cons_ok (sk184) (cons_ok (sk185) (cons_ok (sk186) (cons_ok (sk187) (cons_ok (sk188) (cons_ok (sk189) (cons_ok (sk190) (cons_ok (sk191) (cons_ok (sk192) (cons_ok (sk193) (cons_ok (sk194) (cons_ok (sk195) (cons_ok (sk196) (cons_ok (sk197) (cons_ok (sk198) (cons_ok (sk199) (cons_ok (sk200) (cons_ok (sk201) (cons_ok (sk202) (cons_ok (sk203) (cons_ok (sk206) (cons_ok (sk207) (cons_ok (sk208) (cons_ok (sk209) (cons_ok (sk210) (cons_ok (sk227) (cons_ok (sk249) (cons_ok (sk258) (cons_ok (sk259) (cons_ok (sk260) (cons_ok (sk261) (cons_ok (sk262) (cons_ok (sk263) (cons_ok (sk264) (cons_ok (sk265) (cons_ok (sk266) (cons_ok (sk267) (cons_ok (sk268) (cons_ok (sk269) (cons_ok (sk270) (cons_ok (sk271) (cons_ok (sk272) (cons_ok (sk273) (cons_ok (sk274) (cons_ok (sk278) (cons_ok (sk279) (cons_ok (sk280) (cons_ok (sk282) (cons_ok (sk287) (cons_ok (sk288) (cons_ok (sk290) (cons_ok (sk300) (cons_ok (sk339) (cons_ok (sk341) (cons_ok (sk343) (cons_ok (sk344) (cons_ok (sk345) (cons_ok (sk346) (cons_ok (sk348) (cons_ok (sk349) (cons_ok (sk350) (cons_ok (sk358) (cons_ok (sk367) (cons_ok (sk407) (cons_ok (sk408) (cons_ok (sk409) (cons_ok (sk421) (cons_ok (sk422) (cons_ok (sk423) (cons_ok (sk424) (cons_ok (sk465) (nil_ok)))))))))))))))))))))))))))))))))))))))))))))))))))))))))))))))))))))))))))))))))))))))))))))))))))))))))))))))))))))))))))))))))))))))))))))))))))))))))))))))))))))))))))))))))))))))))))))))))))))))))
end Go.Proofs.Tryz.Am
