/- What these functions give, and that the law FnExactEntryPlaces gives true. -/
import Derived.Test.YtfecgljlnfoheaaCFnExactEntryPlaces
namespace Go.Proofs.Ytfecgljlnfoheaa.AI
open Go.Proofs
set_option linter.all false
set_option maxRecDepth 100000
structure DNode where
  Kind : Int
  Num : Int
  Name : ByteArray
  More : ByteArray
  To : ByteArray
  Kids : List (Int)
abbrev cNode (x : DNode) : List AV := [.int .i64 x.Kind, .int .i64 x.Num, .str x.Name, .str x.More, .str x.To, .tree 1 (x.Kids.map cI)]
def wtNode (x : DNode) : Nat := x.Name.size + x.More.size + x.To.size + x.Kids.length
def gdNode (x : DNode) : Prop := i64 x.Kind ∧ i64 x.Num ∧ gdS x.Name ∧ gdS x.More ∧ gdS x.To ∧ (x.Kids.length ≤ 140737488351232 ∧ ∀ y ∈ x.Kids, i64 y)
def mkNode (x : DNode) (k : Int) : DNode := { Kind := k, Num := (k + 1), Name := (mT ((k + 1) + 1)), More := (mT (((k + 1) + 1) + 1)), To := (mT ((((k + 1) + 1) + 1) + 1)), Kids := mkL mkI ct1 x.Kids (((((k + 1) + 1) + 1) + 1) + 1) }
def ctNode (x : DNode) : Nat := 1 + 1 + 1 + 1 + 1 + tot ct1 x.Kids
theorem ctle_Node (x : DNode) : ctNode x ≤ 5 * (1 + wtNode x) := by
  have h0 := tot_ct1 x.Kids
  unfold ctNode
  simp only [wtNode] at *
  omega
theorem tctle_Node (xs : List DNode) : tot ctNode xs ≤ 5 * (xs.length + tot wtNode xs) := tot_ct_le ctle_Node xs
def mwNode (x : DNode) (k : Int) : DNode := { Kind := x.Kind, Num := x.Num, Name := x.Name, More := x.More, To := x.To, Kids := mkL mkI ct1 x.Kids k }
def cwNode (x : DNode) : Nat := tot ct1 x.Kids
theorem set_cNode {xs : List DNode} {n : Nat} {x : DNode} : (xs.map cNode).set n [.int .i64 x.Kind, .int .i64 x.Num, .str x.Name, .str x.More, .str x.To, .tree 1 (x.Kids.map cI)] = (xs.set n x).map cNode := by rw [List.map_set]
theorem snoc_cNode {xs : List DNode} {x : DNode} : xs.map cNode ++ [[.int .i64 x.Kind, .int .i64 x.Num, .str x.Name, .str x.More, .str x.To, .tree 1 (x.Kids.map cI)]] = (xs ++ [x]).map cNode := by simp
theorem solid_cNode {xs : List DNode} : solid (xs.map cNode) = true := solid_map fun _ => rfl
structure DEntry where
  Name : ByteArray
  Param : ByteArray
  Body : Int
abbrev cEntry (x : DEntry) : List AV := [.str x.Name, .str x.Param, .int .i64 x.Body]
def wtEntry (x : DEntry) : Nat := x.Name.size + x.Param.size
def gdEntry (x : DEntry) : Prop := gdS x.Name ∧ gdS x.Param ∧ i64 x.Body
def mkEntry (x : DEntry) (k : Int) : DEntry := { Name := (mT k), Param := (mT (k + 1)), Body := ((k + 1) + 1) }
def ctEntry (x : DEntry) : Nat := 1 + 1 + 1
theorem ctle_Entry (x : DEntry) : ctEntry x ≤ 3 * (1 + wtEntry x) := by
  unfold ctEntry
  simp only [wtEntry] at *
  omega
theorem tctle_Entry (xs : List DEntry) : tot ctEntry xs ≤ 3 * (xs.length + tot wtEntry xs) := tot_ct_le ctle_Entry xs
theorem flat_cEntry {xs : List DEntry} : flat (xs.map cEntry) = true := flat_map fun _ => rfl
theorem set_cEntry {xs : List DEntry} {n : Nat} {x : DEntry} : (xs.map cEntry).set n [.str x.Name, .str x.Param, .int .i64 x.Body] = (xs.set n x).map cEntry := by rw [List.map_set]
theorem snoc_cEntry {xs : List DEntry} {x : DEntry} : xs.map cEntry ++ [[.str x.Name, .str x.Param, .int .i64 x.Body]] = (xs ++ [x]).map cEntry := by simp
theorem solid_cEntry {xs : List DEntry} : solid (xs.map cEntry) = true := solid_map fun _ => rfl
structure DMonitor where
  Name : ByteArray
  Vars : List (ByteArray)
  Queues : List (ByteArray)
  Entries : List (DEntry)
abbrev cMonitor (x : DMonitor) : List AV := [.str x.Name, .tree 1 (x.Vars.map cS), .tree 1 (x.Queues.map cS), .tree 3 (x.Entries.map cEntry)]
def wtMonitor (x : DMonitor) : Nat := x.Name.size + (x.Vars.length + tot wtS x.Vars) + (x.Queues.length + tot wtS x.Queues) + (x.Entries.length + tot wtEntry x.Entries)
def gdMonitor (x : DMonitor) : Prop := gdS x.Name ∧ (x.Vars.length ≤ 140737488351232 ∧ ∀ y ∈ x.Vars, gdS y) ∧ (x.Queues.length ≤ 140737488351232 ∧ ∀ y ∈ x.Queues, gdS y) ∧ (x.Entries.length ≤ 140737488351232 ∧ ∀ y ∈ x.Entries, gdEntry y)
def mkMonitor (x : DMonitor) (k : Int) : DMonitor := { Name := (mT k), Vars := mkL mkS ct1 x.Vars (k + 1), Queues := mkL mkS ct1 x.Queues ((k + 1) + (tot ct1 x.Vars : Nat)), Entries := mkL mkEntry ctEntry x.Entries (((k + 1) + (tot ct1 x.Vars : Nat)) + (tot ct1 x.Queues : Nat)) }
def ctMonitor (x : DMonitor) : Nat := 1 + tot ct1 x.Vars + tot ct1 x.Queues + tot ctEntry x.Entries
theorem ctle_Monitor (x : DMonitor) : ctMonitor x ≤ 3 * (1 + wtMonitor x) := by
  have h0 := tot_ct1 x.Vars
  have h1 := tot_ct1 x.Queues
  have h2 := tctle_Entry x.Entries
  unfold ctMonitor
  simp only [wtMonitor] at *
  omega
theorem tctle_Monitor (xs : List DMonitor) : tot ctMonitor xs ≤ 3 * (xs.length + tot wtMonitor xs) := tot_ct_le ctle_Monitor xs
def mwMonitor (x : DMonitor) (k : Int) : DMonitor := { Name := x.Name, Vars := mkL mkS ct1 x.Vars k, Queues := mkL mkS ct1 x.Queues (k + (tot ct1 x.Vars : Nat)), Entries := mkL mkEntry ctEntry x.Entries ((k + (tot ct1 x.Vars : Nat)) + (tot ct1 x.Queues : Nat)) }
def cwMonitor (x : DMonitor) : Nat := tot ct1 x.Vars + tot ct1 x.Queues + tot ctEntry x.Entries
theorem set_cMonitor {xs : List DMonitor} {n : Nat} {x : DMonitor} : (xs.map cMonitor).set n [.str x.Name, .tree 1 (x.Vars.map cS), .tree 1 (x.Queues.map cS), .tree 3 (x.Entries.map cEntry)] = (xs.set n x).map cMonitor := by rw [List.map_set]
theorem snoc_cMonitor {xs : List DMonitor} {x : DMonitor} : xs.map cMonitor ++ [[.str x.Name, .tree 1 (x.Vars.map cS), .tree 1 (x.Queues.map cS), .tree 3 (x.Entries.map cEntry)]] = (xs ++ [x]).map cMonitor := by simp
theorem solid_cMonitor {xs : List DMonitor} : solid (xs.map cMonitor) = true := solid_map fun _ => rfl
structure DProcess where
  Name : ByteArray
  Uses : List (ByteArray)
  Vars : List (ByteArray)
  Body : Int
abbrev cProcess (x : DProcess) : List AV := [.str x.Name, .tree 1 (x.Uses.map cS), .tree 1 (x.Vars.map cS), .int .i64 x.Body]
def wtProcess (x : DProcess) : Nat := x.Name.size + (x.Uses.length + tot wtS x.Uses) + (x.Vars.length + tot wtS x.Vars)
def gdProcess (x : DProcess) : Prop := gdS x.Name ∧ (x.Uses.length ≤ 140737488351232 ∧ ∀ y ∈ x.Uses, gdS y) ∧ (x.Vars.length ≤ 140737488351232 ∧ ∀ y ∈ x.Vars, gdS y) ∧ i64 x.Body
def mkProcess (x : DProcess) (k : Int) : DProcess := { Name := (mT k), Uses := mkL mkS ct1 x.Uses (k + 1), Vars := mkL mkS ct1 x.Vars ((k + 1) + (tot ct1 x.Uses : Nat)), Body := (((k + 1) + (tot ct1 x.Uses : Nat)) + (tot ct1 x.Vars : Nat)) }
def ctProcess (x : DProcess) : Nat := 1 + tot ct1 x.Uses + tot ct1 x.Vars + 1
theorem ctle_Process (x : DProcess) : ctProcess x ≤ 2 * (1 + wtProcess x) := by
  have h0 := tot_ct1 x.Uses
  have h1 := tot_ct1 x.Vars
  unfold ctProcess
  simp only [wtProcess] at *
  omega
theorem tctle_Process (xs : List DProcess) : tot ctProcess xs ≤ 2 * (xs.length + tot wtProcess xs) := tot_ct_le ctle_Process xs
def mwProcess (x : DProcess) (k : Int) : DProcess := { Name := x.Name, Uses := mkL mkS ct1 x.Uses k, Vars := mkL mkS ct1 x.Vars (k + (tot ct1 x.Uses : Nat)), Body := x.Body }
def cwProcess (x : DProcess) : Nat := tot ct1 x.Uses + tot ct1 x.Vars
theorem set_cProcess {xs : List DProcess} {n : Nat} {x : DProcess} : (xs.map cProcess).set n [.str x.Name, .tree 1 (x.Uses.map cS), .tree 1 (x.Vars.map cS), .int .i64 x.Body] = (xs.set n x).map cProcess := by rw [List.map_set]
theorem snoc_cProcess {xs : List DProcess} {x : DProcess} : xs.map cProcess ++ [[.str x.Name, .tree 1 (x.Uses.map cS), .tree 1 (x.Vars.map cS), .int .i64 x.Body]] = (xs ++ [x]).map cProcess := by simp
theorem solid_cProcess {xs : List DProcess} : solid (xs.map cProcess) = true := solid_map fun _ => rfl
structure DProgram where
  Nodes : List (DNode)
  Monitors : List (DMonitor)
  Processes : List (DProcess)
abbrev cProgram (x : DProgram) : List AV := [.tree 6 (x.Nodes.map cNode), .tree 4 (x.Monitors.map cMonitor), .tree 4 (x.Processes.map cProcess)]
def wtProgram (x : DProgram) : Nat := (x.Nodes.length + tot wtNode x.Nodes) + (x.Monitors.length + tot wtMonitor x.Monitors) + (x.Processes.length + tot wtProcess x.Processes)
def gdProgram (x : DProgram) : Prop := (x.Nodes.length ≤ 140737488351232 ∧ ∀ y ∈ x.Nodes, gdNode y) ∧ (x.Monitors.length ≤ 140737488351232 ∧ ∀ y ∈ x.Monitors, gdMonitor y) ∧ (x.Processes.length ≤ 140737488351232 ∧ ∀ y ∈ x.Processes, gdProcess y)
def mkProgram (x : DProgram) (k : Int) : DProgram := { Nodes := mkL mkNode ctNode x.Nodes k, Monitors := mkL mkMonitor ctMonitor x.Monitors (k + (tot ctNode x.Nodes : Nat)), Processes := mkL mkProcess ctProcess x.Processes ((k + (tot ctNode x.Nodes : Nat)) + (tot ctMonitor x.Monitors : Nat)) }
def ctProgram (x : DProgram) : Nat := tot ctNode x.Nodes + tot ctMonitor x.Monitors + tot ctProcess x.Processes
theorem ctle_Program (x : DProgram) : ctProgram x ≤ 5 * (1 + wtProgram x) := by
  have h0 := tctle_Node x.Nodes
  have h1 := tctle_Monitor x.Monitors
  have h2 := tctle_Process x.Processes
  unfold ctProgram
  simp only [wtProgram] at *
  omega
theorem tctle_Program (xs : List DProgram) : tot ctProgram xs ≤ 5 * (xs.length + tot wtProgram xs) := tot_ct_le ctle_Program xs
def mwProgram (x : DProgram) (k : Int) : DProgram := { Nodes := mkL mkNode ctNode x.Nodes k, Monitors := mkL mkMonitor ctMonitor x.Monitors (k + (tot ctNode x.Nodes : Nat)), Processes := mkL mkProcess ctProcess x.Processes ((k + (tot ctNode x.Nodes : Nat)) + (tot ctMonitor x.Monitors : Nat)) }
def cwProgram (x : DProgram) : Nat := tot ctNode x.Nodes + tot ctMonitor x.Monitors + tot ctProcess x.Processes
theorem set_cProgram {xs : List DProgram} {n : Nat} {x : DProgram} : (xs.map cProgram).set n [.tree 6 (x.Nodes.map cNode), .tree 4 (x.Monitors.map cMonitor), .tree 4 (x.Processes.map cProcess)] = (xs.set n x).map cProgram := by rw [List.map_set]
theorem snoc_cProgram {xs : List DProgram} {x : DProgram} : xs.map cProgram ++ [[.tree 6 (x.Nodes.map cNode), .tree 4 (x.Monitors.map cMonitor), .tree 4 (x.Processes.map cProcess)]] = (xs ++ [x]).map cProgram := by simp
theorem solid_cProgram {xs : List DProgram} : solid (xs.map cProgram) = true := solid_map fun _ => rfl
structure DGate where
  Owner : Int
  Waits : List (Int)
  Queues : List (Int)
abbrev cGate (x : DGate) : List AV := [.int .i64 x.Owner, .tree 1 (x.Waits.map cI), .tree 1 (x.Queues.map cI)]
def wtGate (x : DGate) : Nat := x.Waits.length + x.Queues.length
def gdGate (x : DGate) : Prop := i64 x.Owner ∧ (x.Waits.length ≤ 140737488351232 ∧ ∀ y ∈ x.Waits, i64 y) ∧ (x.Queues.length ≤ 140737488351232 ∧ ∀ y ∈ x.Queues, i64 y)
def mkGate (x : DGate) (k : Int) : DGate := { Owner := k, Waits := mkL mkI ct1 x.Waits (k + 1), Queues := mkL mkI ct1 x.Queues ((k + 1) + (tot ct1 x.Waits : Nat)) }
def ctGate (x : DGate) : Nat := 1 + tot ct1 x.Waits + tot ct1 x.Queues
theorem ctle_Gate (x : DGate) : ctGate x ≤ 1 * (1 + wtGate x) := by
  have h0 := tot_ct1 x.Waits
  have h1 := tot_ct1 x.Queues
  unfold ctGate
  simp only [wtGate] at *
  omega
theorem tctle_Gate (xs : List DGate) : tot ctGate xs ≤ 1 * (xs.length + tot wtGate xs) := tot_ct_le ctle_Gate xs
def mwGate (x : DGate) (k : Int) : DGate := { Owner := x.Owner, Waits := mkL mkI ct1 x.Waits k, Queues := mkL mkI ct1 x.Queues (k + (tot ct1 x.Waits : Nat)) }
def cwGate (x : DGate) : Nat := tot ct1 x.Waits + tot ct1 x.Queues
theorem set_cGate {xs : List DGate} {n : Nat} {x : DGate} : (xs.map cGate).set n [.int .i64 x.Owner, .tree 1 (x.Waits.map cI), .tree 1 (x.Queues.map cI)] = (xs.set n x).map cGate := by rw [List.map_set]
theorem snoc_cGate {xs : List DGate} {x : DGate} : xs.map cGate ++ [[.int .i64 x.Owner, .tree 1 (x.Waits.map cI), .tree 1 (x.Queues.map cI)]] = (xs ++ [x]).map cGate := by simp
theorem solid_cGate {xs : List DGate} : solid (xs.map cGate) = true := solid_map fun _ => rfl
structure DCore where
  Regs : List (Int)
  Pc : Int
  Process : Int
abbrev cCore (x : DCore) : List AV := [.tree 1 (x.Regs.map cI), .int .i64 x.Pc, .int .i64 x.Process]
def wtCore (x : DCore) : Nat := x.Regs.length
def gdCore (x : DCore) : Prop := (x.Regs.length ≤ 140737488351232 ∧ ∀ y ∈ x.Regs, i64 y) ∧ i64 x.Pc ∧ i64 x.Process
def mkCore (x : DCore) (k : Int) : DCore := { Regs := mkL mkI ct1 x.Regs k, Pc := (k + (tot ct1 x.Regs : Nat)), Process := ((k + (tot ct1 x.Regs : Nat)) + 1) }
def ctCore (x : DCore) : Nat := tot ct1 x.Regs + 1 + 1
theorem ctle_Core (x : DCore) : ctCore x ≤ 2 * (1 + wtCore x) := by
  have h0 := tot_ct1 x.Regs
  unfold ctCore
  simp only [wtCore] at *
  omega
theorem tctle_Core (xs : List DCore) : tot ctCore xs ≤ 2 * (xs.length + tot wtCore xs) := tot_ct_le ctle_Core xs
def mwCore (x : DCore) (k : Int) : DCore := { Regs := mkL mkI ct1 x.Regs k, Pc := x.Pc, Process := x.Process }
def cwCore (x : DCore) : Nat := tot ct1 x.Regs
theorem set_cCore {xs : List DCore} {n : Nat} {x : DCore} : (xs.map cCore).set n [.tree 1 (x.Regs.map cI), .int .i64 x.Pc, .int .i64 x.Process] = (xs.set n x).map cCore := by rw [List.map_set]
theorem snoc_cCore {xs : List DCore} {x : DCore} : xs.map cCore ++ [[.tree 1 (x.Regs.map cI), .int .i64 x.Pc, .int .i64 x.Process]] = (xs ++ [x]).map cCore := by simp
theorem solid_cCore {xs : List DCore} : solid (xs.map cCore) = true := solid_map fun _ => rfl
structure DPlaces where
  Names : List (ByteArray)
  Ats : List (Int)
abbrev cPlaces (x : DPlaces) : List AV := [.tree 1 (x.Names.map cS), .tree 1 (x.Ats.map cI)]
def wtPlaces (x : DPlaces) : Nat := (x.Names.length + tot wtS x.Names) + x.Ats.length
def gdPlaces (x : DPlaces) : Prop := (x.Names.length ≤ 140737488351232 ∧ ∀ y ∈ x.Names, gdS y) ∧ (x.Ats.length ≤ 140737488351232 ∧ ∀ y ∈ x.Ats, i64 y)
def mkPlaces (x : DPlaces) (k : Int) : DPlaces := { Names := mkL mkS ct1 x.Names k, Ats := mkL mkI ct1 x.Ats (k + (tot ct1 x.Names : Nat)) }
def ctPlaces (x : DPlaces) : Nat := tot ct1 x.Names + tot ct1 x.Ats
theorem ctle_Places (x : DPlaces) : ctPlaces x ≤ 1 * (1 + wtPlaces x) := by
  have h0 := tot_ct1 x.Names
  have h1 := tot_ct1 x.Ats
  unfold ctPlaces
  simp only [wtPlaces] at *
  omega
theorem tctle_Places (xs : List DPlaces) : tot ctPlaces xs ≤ 1 * (xs.length + tot wtPlaces xs) := tot_ct_le ctle_Places xs
def mwPlaces (x : DPlaces) (k : Int) : DPlaces := { Names := mkL mkS ct1 x.Names k, Ats := mkL mkI ct1 x.Ats (k + (tot ct1 x.Names : Nat)) }
def cwPlaces (x : DPlaces) : Nat := tot ct1 x.Names + tot ct1 x.Ats
theorem set_cPlaces {xs : List DPlaces} {n : Nat} {x : DPlaces} : (xs.map cPlaces).set n [.tree 1 (x.Names.map cS), .tree 1 (x.Ats.map cI)] = (xs.set n x).map cPlaces := by rw [List.map_set]
theorem snoc_cPlaces {xs : List DPlaces} {x : DPlaces} : xs.map cPlaces ++ [[.tree 1 (x.Names.map cS), .tree 1 (x.Ats.map cI)]] = (xs ++ [x]).map cPlaces := by simp
theorem solid_cPlaces {xs : List DPlaces} : solid (xs.map cPlaces) = true := solid_map fun _ => rfl
structure DImage where
  Text : List (Int)
  Starts : List (Int)
  Size : Int
abbrev cImage (x : DImage) : List AV := [.tree 1 (x.Text.map cI), .tree 1 (x.Starts.map cI), .int .i64 x.Size]
def wtImage (x : DImage) : Nat := x.Text.length + x.Starts.length
def gdImage (x : DImage) : Prop := (x.Text.length ≤ 140737488351232 ∧ ∀ y ∈ x.Text, i64 y) ∧ (x.Starts.length ≤ 140737488351232 ∧ ∀ y ∈ x.Starts, i64 y) ∧ i64 x.Size
def mkImage (x : DImage) (k : Int) : DImage := { Text := mkL mkI ct1 x.Text k, Starts := mkL mkI ct1 x.Starts (k + (tot ct1 x.Text : Nat)), Size := ((k + (tot ct1 x.Text : Nat)) + (tot ct1 x.Starts : Nat)) }
def ctImage (x : DImage) : Nat := tot ct1 x.Text + tot ct1 x.Starts + 1
theorem ctle_Image (x : DImage) : ctImage x ≤ 1 * (1 + wtImage x) := by
  have h0 := tot_ct1 x.Text
  have h1 := tot_ct1 x.Starts
  unfold ctImage
  simp only [wtImage] at *
  omega
theorem tctle_Image (xs : List DImage) : tot ctImage xs ≤ 1 * (xs.length + tot wtImage xs) := tot_ct_le ctle_Image xs
def mwImage (x : DImage) (k : Int) : DImage := { Text := mkL mkI ct1 x.Text k, Starts := mkL mkI ct1 x.Starts (k + (tot ct1 x.Text : Nat)), Size := x.Size }
def cwImage (x : DImage) : Nat := tot ct1 x.Text + tot ct1 x.Starts
theorem set_cImage {xs : List DImage} {n : Nat} {x : DImage} : (xs.map cImage).set n [.tree 1 (x.Text.map cI), .tree 1 (x.Starts.map cI), .int .i64 x.Size] = (xs.set n x).map cImage := by rw [List.map_set]
theorem snoc_cImage {xs : List DImage} {x : DImage} : xs.map cImage ++ [[.tree 1 (x.Text.map cI), .tree 1 (x.Starts.map cI), .int .i64 x.Size]] = (xs ++ [x]).map cImage := by simp
theorem solid_cImage {xs : List DImage} : solid (xs.map cImage) = true := solid_map fun _ => rfl
structure DKernel where
  Gates : List (DGate)
  Ready : List (Int)
  Saved : List (DCore)
  Over : List (Bool)
abbrev cKernel (x : DKernel) : List AV := [.tree 3 (x.Gates.map cGate), .tree 1 (x.Ready.map cI), .tree 3 (x.Saved.map cCore), .tree 1 (x.Over.map cB)]
def wtKernel (x : DKernel) : Nat := (x.Gates.length + tot wtGate x.Gates) + x.Ready.length + (x.Saved.length + tot wtCore x.Saved) + x.Over.length
def gdKernel (x : DKernel) : Prop := (x.Gates.length ≤ 140737488351232 ∧ ∀ y ∈ x.Gates, gdGate y) ∧ (x.Ready.length ≤ 140737488351232 ∧ ∀ y ∈ x.Ready, i64 y) ∧ (x.Saved.length ≤ 140737488351232 ∧ ∀ y ∈ x.Saved, gdCore y) ∧ (x.Over.length ≤ 140737488351232)
def mkKernel (x : DKernel) (k : Int) : DKernel := { Gates := mkL mkGate ctGate x.Gates k, Ready := mkL mkI ct1 x.Ready (k + (tot ctGate x.Gates : Nat)), Saved := mkL mkCore ctCore x.Saved ((k + (tot ctGate x.Gates : Nat)) + (tot ct1 x.Ready : Nat)), Over := mkL mkB ct1 x.Over (((k + (tot ctGate x.Gates : Nat)) + (tot ct1 x.Ready : Nat)) + (tot ctCore x.Saved : Nat)) }
def ctKernel (x : DKernel) : Nat := tot ctGate x.Gates + tot ct1 x.Ready + tot ctCore x.Saved + tot ct1 x.Over
theorem ctle_Kernel (x : DKernel) : ctKernel x ≤ 2 * (1 + wtKernel x) := by
  have h0 := tctle_Gate x.Gates
  have h1 := tot_ct1 x.Ready
  have h2 := tctle_Core x.Saved
  have h3 := tot_ct1 x.Over
  unfold ctKernel
  simp only [wtKernel] at *
  omega
theorem tctle_Kernel (xs : List DKernel) : tot ctKernel xs ≤ 2 * (xs.length + tot wtKernel xs) := tot_ct_le ctle_Kernel xs
def mwKernel (x : DKernel) (k : Int) : DKernel := { Gates := mkL mkGate ctGate x.Gates k, Ready := mkL mkI ct1 x.Ready (k + (tot ctGate x.Gates : Nat)), Saved := mkL mkCore ctCore x.Saved ((k + (tot ctGate x.Gates : Nat)) + (tot ct1 x.Ready : Nat)), Over := mkL mkB ct1 x.Over (((k + (tot ctGate x.Gates : Nat)) + (tot ct1 x.Ready : Nat)) + (tot ctCore x.Saved : Nat)) }
def cwKernel (x : DKernel) : Nat := tot ctGate x.Gates + tot ct1 x.Ready + tot ctCore x.Saved + tot ct1 x.Over
theorem set_cKernel {xs : List DKernel} {n : Nat} {x : DKernel} : (xs.map cKernel).set n [.tree 3 (x.Gates.map cGate), .tree 1 (x.Ready.map cI), .tree 3 (x.Saved.map cCore), .tree 1 (x.Over.map cB)] = (xs.set n x).map cKernel := by rw [List.map_set]
theorem snoc_cKernel {xs : List DKernel} {x : DKernel} : xs.map cKernel ++ [[.tree 3 (x.Gates.map cGate), .tree 1 (x.Ready.map cI), .tree 3 (x.Saved.map cCore), .tree 1 (x.Over.map cB)]] = (xs ++ [x]).map cKernel := by simp
theorem solid_cKernel {xs : List DKernel} : solid (xs.map cKernel) = true := solid_map fun _ => rfl
def FT := (And.intro (And.intro (And.intro (And.intro @solid_cNode (And.intro @solid_cEntry @solid_cMonitor)) (And.intro (And.intro @solid_cProcess @solid_cProgram) (And.intro @solid_cGate @solid_cCore))) (And.intro (And.intro (And.intro @solid_cPlaces @solid_cImage) (And.intro @solid_cKernel @flat_cEntry)) (And.intro (And.intro @snoc_cNode @snoc_cEntry) (And.intro @snoc_cMonitor @snoc_cProcess)))) (And.intro (And.intro (And.intro (And.intro @snoc_cProgram @snoc_cGate) (And.intro @snoc_cCore @snoc_cPlaces)) (And.intro (And.intro @snoc_cImage @snoc_cKernel) (And.intro @set_cNode @set_cEntry))) (And.intro (And.intro (And.intro @set_cMonitor @set_cProcess) (And.intro @set_cProgram @set_cGate)) (And.intro (And.intro @set_cCore @set_cPlaces) (And.intro @set_cImage @set_cKernel)))))
theorem sem_laws_szIntS (xs : List Int) (h : xs.length ≤ 140737488351232) (n : Int) (h1 : -1 ≤ n) (h2 : n ≤ 4611686018427387904) : S_laws_szIntS.sem [.tree 1 (xs.map cI), .int .i64 n] = some (.int .i64 (lft n xs.length), []) := by
  rw [sg_laws_szIntS, sem_go]
  simp +contextual (maxSteps := 10000000) (disch := omega) only [F_laws_szIntS, params, EG, EL, ↓reduceIte, Nat.reduceEqDiff, Nat.reduceAdd, Nat.reduceSub, Nat.reduceMul, Nat.reduceLeDiff, Nat.reduceLT, Int.reduceLT, Int.reduceLE, Int.reduceEq, Int.reduceToNat, reduceCtorEq, FB, FT, cx_laws_szIntS, wrapI]
  unfold lft
  split <;> rfl
theorem sem_laws_szNode (x : DNode) (g : gdNode x) (n : Int) (h1 : -1 ≤ n) (h2 : n ≤ 4611686018427387904) : S_laws_szNode.sem [.agg (cNode x), .int .i64 n] = some (.int .i64 (lft n (wtNode x)), []) := by
  obtain ⟨g0, g1, g2, g3, g4, ⟨g5, g5e⟩⟩ := (show i64 x.Kind ∧ i64 x.Num ∧ gdS x.Name ∧ gdS x.More ∧ gdS x.To ∧ (x.Kids.length ≤ 140737488351232 ∧ ∀ y ∈ x.Kids, i64 y) from g)
  simp only [gdS] at g2 g3 g4
  unfold wtNode
  have kW := lft_or n (x.Name.size + x.More.size + x.To.size + x.Kids.length)
  rw [sg_laws_szNode, sem_go]
  by_cases c0 : n - ((x.Name.size : Nat) : Int) < 0
  · simp (maxSteps := 10000000) (disch := first | assumption | omega) only [F_laws_szNode, params, EG, EL, ↓reduceIte, Nat.reduceEqDiff, Nat.reduceAdd, Nat.reduceSub, Nat.reduceMul, Nat.reduceLeDiff, Nat.reduceLT, Int.reduceLT, Int.reduceLE, Int.reduceEq, Int.reduceToNat, reduceCtorEq, FB, FT, cx_laws_szNode, cl_laws_szIntS, sem_laws_szIntS, wrapI, neg1_lt, c0]
    first | done | (simp only [Option.some.injEq, Prod.mk.injEq, AV.int.injEq, AV.bool.injEq, AV.str.injEq, true_and, and_true]; omega)
  · skip
    by_cases c1 : n - ((x.Name.size : Nat) : Int) - ((x.More.size : Nat) : Int) < 0
    · simp (maxSteps := 10000000) (disch := first | assumption | omega) only [F_laws_szNode, params, EG, EL, ↓reduceIte, Nat.reduceEqDiff, Nat.reduceAdd, Nat.reduceSub, Nat.reduceMul, Nat.reduceLeDiff, Nat.reduceLT, Int.reduceLT, Int.reduceLE, Int.reduceEq, Int.reduceToNat, reduceCtorEq, FB, FT, cx_laws_szNode, cl_laws_szIntS, sem_laws_szIntS, wrapI, neg1_lt, c0, c1]
      first | done | (simp only [Option.some.injEq, Prod.mk.injEq, AV.int.injEq, AV.bool.injEq, AV.str.injEq, true_and, and_true]; omega)
    · skip
      by_cases c2 : n - ((x.Name.size : Nat) : Int) - ((x.More.size : Nat) : Int) - ((x.To.size : Nat) : Int) < 0
      · simp (maxSteps := 10000000) (disch := first | assumption | omega) only [F_laws_szNode, params, EG, EL, ↓reduceIte, Nat.reduceEqDiff, Nat.reduceAdd, Nat.reduceSub, Nat.reduceMul, Nat.reduceLeDiff, Nat.reduceLT, Int.reduceLT, Int.reduceLE, Int.reduceEq, Int.reduceToNat, reduceCtorEq, FB, FT, cx_laws_szNode, cl_laws_szIntS, sem_laws_szIntS, wrapI, neg1_lt, c0, c1, c2]
        first | done | (simp only [Option.some.injEq, Prod.mk.injEq, AV.int.injEq, AV.bool.injEq, AV.str.injEq, true_and, and_true]; omega)
      · skip
        rcases lft_or (n - ((x.Name.size : Nat) : Int) - ((x.More.size : Nat) : Int) - ((x.To.size : Nat) : Int)) (x.Kids.length) with ⟨e3, f3⟩ | ⟨e3, f3⟩
        · simp (maxSteps := 10000000) (disch := first | assumption | omega) only [F_laws_szNode, params, EG, EL, ↓reduceIte, Nat.reduceEqDiff, Nat.reduceAdd, Nat.reduceSub, Nat.reduceMul, Nat.reduceLeDiff, Nat.reduceLT, Int.reduceLT, Int.reduceLE, Int.reduceEq, Int.reduceToNat, reduceCtorEq, FB, FT, cx_laws_szNode, cl_laws_szIntS, sem_laws_szIntS, wrapI, neg1_lt, c0, c1, c2, e3]
          first | done | (simp only [Option.some.injEq, Prod.mk.injEq, AV.int.injEq, AV.bool.injEq, AV.str.injEq, true_and, and_true]; omega)
        · have c3 : ¬ n - ((x.Name.size : Nat) : Int) - ((x.More.size : Nat) : Int) - ((x.To.size : Nat) : Int) - ((x.Kids.length : Nat) : Int) < 0 := by omega
          simp (maxSteps := 10000000) (disch := first | assumption | omega) only [F_laws_szNode, params, EG, EL, ↓reduceIte, Nat.reduceEqDiff, Nat.reduceAdd, Nat.reduceSub, Nat.reduceMul, Nat.reduceLeDiff, Nat.reduceLT, Int.reduceLT, Int.reduceLE, Int.reduceEq, Int.reduceToNat, reduceCtorEq, FB, FT, cx_laws_szNode, cl_laws_szIntS, sem_laws_szIntS, wrapI, neg1_lt, c0, c1, c2, e3, c3]
          first | done | rfl | (simp only [Option.some.injEq, Prod.mk.injEq, AV.int.injEq, AV.bool.injEq, AV.str.injEq, true_and, and_true]; omega)
theorem loop_laws_szNodeS (xs : List DNode) (g : ∀ y ∈ xs, gdNode y) (hl : xs.length ≤ 140737488351232) (n : Int) (h1 : 0 ≤ n) (h2 : n ≤ 4611686018427387904) :
    loopV X_laws_szNodeS 0 [0, 1, 5] [(1, [1]), (0, [4])] B0_laws_szNodeS ⟨[(0, .tree 6 (xs.map cNode)), (1, .int .i64 n), (5, .int .i64 0)], []⟩ = szR 4 n (tot wtNode xs) := by
  refine loop_list xs (fun _ m => 0 ≤ m ∧ m ≤ 4611686018427387904) (fun i (m : Int) => ⟨[(0, .tree 6 (xs.map cNode)), (1, .int .i64 m), (5, .int .i64 ((i : Nat) : Int))], []⟩) (fun rest m => szR 4 m (tot wtNode rest)) ?_ ?_ n ⟨h1, h2⟩
  · rintro m ⟨m1, m2⟩
    rw [loopV_by B0_laws_szNodeS.eq_1]
    simp only [EG, EL, ↓reduceIte, Nat.reduceEqDiff, Nat.reduceAdd, Nat.reduceSub, Nat.reduceMul, Nat.reduceLeDiff, Nat.reduceLT, Int.reduceLT, Int.reduceLE, Int.reduceEq, Int.reduceToNat, reduceCtorEq, int_lt_irrefl]
    exact szR_zero m1
  · rintro i h x rest m rfl rfl ⟨m1, m2⟩ ih
    have hi : (i : Int) < (xs.length : Int) := by omega
    have hx := g _ (List.getElem_mem h)
    skip
    rw [loopV_by B0_laws_szNodeS.eq_1]
    by_cases hc : m - ((wtNode xs[i] : Nat) : Int) < 0
    · have hq : lft m (wtNode xs[i]) = -1 := if_pos hc
      simp (maxSteps := 10000000) (disch := first | assumption | omega) only [EG, EL, ↓reduceIte, Nat.reduceEqDiff, Nat.reduceAdd, Nat.reduceSub, Nat.reduceMul, Nat.reduceLeDiff, Nat.reduceLT, Int.reduceLT, Int.reduceLE, Int.reduceEq, Int.reduceToNat, reduceCtorEq, FB, FT, hi, wrap_succ, getRow _ _ h, cx_laws_szNodeS, cl_laws_szNode, sem_laws_szNode, hc, hq, neg1_lt]
      exact szR_neg hc
    · have hq : lft m (wtNode xs[i]) = m - ((wtNode xs[i] : Nat) : Int) := if_neg hc
      simp (maxSteps := 10000000) (disch := first | assumption | omega) only [EG, EL, ↓reduceIte, Nat.reduceEqDiff, Nat.reduceAdd, Nat.reduceSub, Nat.reduceMul, Nat.reduceLeDiff, Nat.reduceLT, Int.reduceLT, Int.reduceLE, Int.reduceEq, Int.reduceToNat, reduceCtorEq, FB, FT, hi, wrap_succ, getRow _ _ h, cx_laws_szNodeS, cl_laws_szNode, sem_laws_szNode, hc, hq, neg1_lt]
      skip
      rw [ih _ ⟨by omega, by omega⟩]
      exact szR_pos
theorem sem_laws_szNodeS (xs : List DNode) (h : xs.length ≤ 140737488351232) (g : ∀ y ∈ xs, gdNode y) (n : Int) (h1 : -1 ≤ n) (h2 : n ≤ 4611686018427387904) : S_laws_szNodeS.sem [.tree 6 (xs.map cNode), .int .i64 n] = some (.int .i64 (lft n (xs.length + tot wtNode xs)), []) := by
  rw [sg_laws_szNodeS, sem_go]
  by_cases hc : n - (xs.length : Int) < 0
  · simp (maxSteps := 10000000) (disch := omega) only [F_laws_szNodeS, params, EG, EL, ↓reduceIte, Nat.reduceEqDiff, Nat.reduceAdd, Nat.reduceSub, Nat.reduceMul, Nat.reduceLeDiff, Nat.reduceLT, Int.reduceLT, Int.reduceLE, Int.reduceEq, Int.reduceToNat, reduceCtorEq, FB, FT, cx_laws_szNodeS, cl_laws_szNode, sem_laws_szNode, wrapI, hc, lft]
    rw [if_pos (by omega)]
  · simp (maxSteps := 10000000) (disch := first | assumption | omega) only [F_laws_szNodeS, params, EG, EL, ↓reduceIte, Nat.reduceEqDiff, Nat.reduceAdd, Nat.reduceSub, Nat.reduceMul, Nat.reduceLeDiff, Nat.reduceLT, Int.reduceLT, Int.reduceLE, Int.reduceEq, Int.reduceToNat, reduceCtorEq, FB, FT, cx_laws_szNodeS, cl_laws_szNode, sem_laws_szNode, wrapI, hc, loop_laws_szNodeS, goE_szR]
    unfold lft
    (repeat' split) <;> first | rfl | omega | (simp only [Option.some.injEq, Prod.mk.injEq, AV.int.injEq, AV.bool.injEq, AV.str.injEq, true_and, and_true]; omega)
theorem loop_laws_szStringS (xs : List ByteArray) (g : ∀ y ∈ xs, gdS y) (hl : xs.length ≤ 140737488351232) (n : Int) (h1 : 0 ≤ n) (h2 : n ≤ 4611686018427387904) :
    loopV X_laws_szStringS 0 [0, 1, 5] [(1, [1]), (0, [4])] B0_laws_szStringS ⟨[(0, .tree 1 (xs.map cS)), (1, .int .i64 n), (5, .int .i64 0)], []⟩ = szR 4 n (tot wtS xs) := by
  refine loop_list xs (fun _ m => 0 ≤ m ∧ m ≤ 4611686018427387904) (fun i (m : Int) => ⟨[(0, .tree 1 (xs.map cS)), (1, .int .i64 m), (5, .int .i64 ((i : Nat) : Int))], []⟩) (fun rest m => szR 4 m (tot wtS rest)) ?_ ?_ n ⟨h1, h2⟩
  · rintro m ⟨m1, m2⟩
    rw [loopV_by B0_laws_szStringS.eq_1]
    simp only [EG, EL, ↓reduceIte, Nat.reduceEqDiff, Nat.reduceAdd, Nat.reduceSub, Nat.reduceMul, Nat.reduceLeDiff, Nat.reduceLT, Int.reduceLT, Int.reduceLE, Int.reduceEq, Int.reduceToNat, reduceCtorEq, int_lt_irrefl]
    exact szR_zero m1
  · rintro i h x rest m rfl rfl ⟨m1, m2⟩ ih
    have hi : (i : Int) < (xs.length : Int) := by omega
    have hx := g _ (List.getElem_mem h)
    simp only [gdS] at hx
    rw [loopV_by B0_laws_szStringS.eq_1]
    by_cases hc : m - ((xs[i].size : Nat) : Int) < 0
    · skip
      simp (maxSteps := 10000000) (disch := first | assumption | omega) only [EG, EL, ↓reduceIte, Nat.reduceEqDiff, Nat.reduceAdd, Nat.reduceSub, Nat.reduceMul, Nat.reduceLeDiff, Nat.reduceLT, Int.reduceLT, Int.reduceLE, Int.reduceEq, Int.reduceToNat, reduceCtorEq, FB, FT, hi, wrap_succ, getRow _ _ h, cx_laws_szStringS, hc, wrapI]
      exact szR_neg hc
    · skip
      simp (maxSteps := 10000000) (disch := first | assumption | omega) only [EG, EL, ↓reduceIte, Nat.reduceEqDiff, Nat.reduceAdd, Nat.reduceSub, Nat.reduceMul, Nat.reduceLeDiff, Nat.reduceLT, Int.reduceLT, Int.reduceLE, Int.reduceEq, Int.reduceToNat, reduceCtorEq, FB, FT, hi, getRow _ _ h, cx_laws_szStringS, hc, wrapI]
      rw [show ((i : Nat) : Int) + 1 = ((i + 1 : Nat) : Int) by omega]
      rw [ih _ ⟨by omega, by omega⟩]
      exact szR_pos
theorem sem_laws_szStringS (xs : List ByteArray) (h : xs.length ≤ 140737488351232) (g : ∀ y ∈ xs, gdS y) (n : Int) (h1 : -1 ≤ n) (h2 : n ≤ 4611686018427387904) : S_laws_szStringS.sem [.tree 1 (xs.map cS), .int .i64 n] = some (.int .i64 (lft n (xs.length + tot wtS xs)), []) := by
  rw [sg_laws_szStringS, sem_go]
  by_cases hc : n - (xs.length : Int) < 0
  · simp (maxSteps := 10000000) (disch := omega) only [F_laws_szStringS, params, EG, EL, ↓reduceIte, Nat.reduceEqDiff, Nat.reduceAdd, Nat.reduceSub, Nat.reduceMul, Nat.reduceLeDiff, Nat.reduceLT, Int.reduceLT, Int.reduceLE, Int.reduceEq, Int.reduceToNat, reduceCtorEq, FB, FT, cx_laws_szStringS, wrapI, hc, lft]
    rw [if_pos (by omega)]
  · simp (maxSteps := 10000000) (disch := first | assumption | omega) only [F_laws_szStringS, params, EG, EL, ↓reduceIte, Nat.reduceEqDiff, Nat.reduceAdd, Nat.reduceSub, Nat.reduceMul, Nat.reduceLeDiff, Nat.reduceLT, Int.reduceLT, Int.reduceLE, Int.reduceEq, Int.reduceToNat, reduceCtorEq, FB, FT, cx_laws_szStringS, wrapI, hc, loop_laws_szStringS, goE_szR]
    unfold lft
    (repeat' split) <;> first | rfl | omega | (simp only [Option.some.injEq, Prod.mk.injEq, AV.int.injEq, AV.bool.injEq, AV.str.injEq, true_and, and_true]; omega)
theorem sem_laws_szEntry (x : DEntry) (g : gdEntry x) (n : Int) (h1 : -1 ≤ n) (h2 : n ≤ 4611686018427387904) : S_laws_szEntry.sem [.agg (cEntry x), .int .i64 n] = some (.int .i64 (lft n (wtEntry x)), []) := by
  obtain ⟨g0, g1, g2⟩ := (show gdS x.Name ∧ gdS x.Param ∧ i64 x.Body from g)
  simp only [gdS] at g0 g1
  unfold wtEntry
  have kW := lft_or n (x.Name.size + x.Param.size)
  rw [sg_laws_szEntry, sem_go]
  by_cases c0 : n - ((x.Name.size : Nat) : Int) < 0
  · simp (maxSteps := 10000000) (disch := first | assumption | omega) only [F_laws_szEntry, params, EG, EL, ↓reduceIte, Nat.reduceEqDiff, Nat.reduceAdd, Nat.reduceSub, Nat.reduceMul, Nat.reduceLeDiff, Nat.reduceLT, Int.reduceLT, Int.reduceLE, Int.reduceEq, Int.reduceToNat, reduceCtorEq, FB, FT, cx_laws_szEntry, wrapI, neg1_lt, c0]
    first | done | (simp only [Option.some.injEq, Prod.mk.injEq, AV.int.injEq, AV.bool.injEq, AV.str.injEq, true_and, and_true]; omega)
  · skip
    by_cases c1 : n - ((x.Name.size : Nat) : Int) - ((x.Param.size : Nat) : Int) < 0
    · simp (maxSteps := 10000000) (disch := first | assumption | omega) only [F_laws_szEntry, params, EG, EL, ↓reduceIte, Nat.reduceEqDiff, Nat.reduceAdd, Nat.reduceSub, Nat.reduceMul, Nat.reduceLeDiff, Nat.reduceLT, Int.reduceLT, Int.reduceLE, Int.reduceEq, Int.reduceToNat, reduceCtorEq, FB, FT, cx_laws_szEntry, wrapI, neg1_lt, c0, c1]
      first | done | (simp only [Option.some.injEq, Prod.mk.injEq, AV.int.injEq, AV.bool.injEq, AV.str.injEq, true_and, and_true]; omega)
    · skip
      simp (maxSteps := 10000000) (disch := first | assumption | omega) only [F_laws_szEntry, params, EG, EL, ↓reduceIte, Nat.reduceEqDiff, Nat.reduceAdd, Nat.reduceSub, Nat.reduceMul, Nat.reduceLeDiff, Nat.reduceLT, Int.reduceLT, Int.reduceLE, Int.reduceEq, Int.reduceToNat, reduceCtorEq, FB, FT, cx_laws_szEntry, wrapI, neg1_lt, c0, c1]
      first | done | rfl | (simp only [Option.some.injEq, Prod.mk.injEq, AV.int.injEq, AV.bool.injEq, AV.str.injEq, true_and, and_true]; omega)
theorem loop_laws_szEntryS (xs : List DEntry) (g : ∀ y ∈ xs, gdEntry y) (hl : xs.length ≤ 140737488351232) (n : Int) (h1 : 0 ≤ n) (h2 : n ≤ 4611686018427387904) :
    loopV X_laws_szEntryS 0 [0, 1, 5] [(1, [1]), (0, [4])] B0_laws_szEntryS ⟨[(0, .tree 3 (xs.map cEntry)), (1, .int .i64 n), (5, .int .i64 0)], []⟩ = szR 4 n (tot wtEntry xs) := by
  refine loop_list xs (fun _ m => 0 ≤ m ∧ m ≤ 4611686018427387904) (fun i (m : Int) => ⟨[(0, .tree 3 (xs.map cEntry)), (1, .int .i64 m), (5, .int .i64 ((i : Nat) : Int))], []⟩) (fun rest m => szR 4 m (tot wtEntry rest)) ?_ ?_ n ⟨h1, h2⟩
  · rintro m ⟨m1, m2⟩
    rw [loopV_by B0_laws_szEntryS.eq_1]
    simp only [EG, EL, ↓reduceIte, Nat.reduceEqDiff, Nat.reduceAdd, Nat.reduceSub, Nat.reduceMul, Nat.reduceLeDiff, Nat.reduceLT, Int.reduceLT, Int.reduceLE, Int.reduceEq, Int.reduceToNat, reduceCtorEq, int_lt_irrefl]
    exact szR_zero m1
  · rintro i h x rest m rfl rfl ⟨m1, m2⟩ ih
    have hi : (i : Int) < (xs.length : Int) := by omega
    have hx := g _ (List.getElem_mem h)
    skip
    rw [loopV_by B0_laws_szEntryS.eq_1]
    by_cases hc : m - ((wtEntry xs[i] : Nat) : Int) < 0
    · have hq : lft m (wtEntry xs[i]) = -1 := if_pos hc
      simp (maxSteps := 10000000) (disch := first | assumption | omega) only [EG, EL, ↓reduceIte, Nat.reduceEqDiff, Nat.reduceAdd, Nat.reduceSub, Nat.reduceMul, Nat.reduceLeDiff, Nat.reduceLT, Int.reduceLT, Int.reduceLE, Int.reduceEq, Int.reduceToNat, reduceCtorEq, FB, FT, hi, wrap_succ, getRow _ _ h, cx_laws_szEntryS, cl_laws_szEntry, sem_laws_szEntry, hc, hq, neg1_lt]
      exact szR_neg hc
    · have hq : lft m (wtEntry xs[i]) = m - ((wtEntry xs[i] : Nat) : Int) := if_neg hc
      simp (maxSteps := 10000000) (disch := first | assumption | omega) only [EG, EL, ↓reduceIte, Nat.reduceEqDiff, Nat.reduceAdd, Nat.reduceSub, Nat.reduceMul, Nat.reduceLeDiff, Nat.reduceLT, Int.reduceLT, Int.reduceLE, Int.reduceEq, Int.reduceToNat, reduceCtorEq, FB, FT, hi, wrap_succ, getRow _ _ h, cx_laws_szEntryS, cl_laws_szEntry, sem_laws_szEntry, hc, hq, neg1_lt]
      skip
      rw [ih _ ⟨by omega, by omega⟩]
      exact szR_pos
theorem sem_laws_szEntryS (xs : List DEntry) (h : xs.length ≤ 140737488351232) (g : ∀ y ∈ xs, gdEntry y) (n : Int) (h1 : -1 ≤ n) (h2 : n ≤ 4611686018427387904) : S_laws_szEntryS.sem [.tree 3 (xs.map cEntry), .int .i64 n] = some (.int .i64 (lft n (xs.length + tot wtEntry xs)), []) := by
  rw [sg_laws_szEntryS, sem_go]
  by_cases hc : n - (xs.length : Int) < 0
  · simp (maxSteps := 10000000) (disch := omega) only [F_laws_szEntryS, params, EG, EL, ↓reduceIte, Nat.reduceEqDiff, Nat.reduceAdd, Nat.reduceSub, Nat.reduceMul, Nat.reduceLeDiff, Nat.reduceLT, Int.reduceLT, Int.reduceLE, Int.reduceEq, Int.reduceToNat, reduceCtorEq, FB, FT, cx_laws_szEntryS, cl_laws_szEntry, sem_laws_szEntry, wrapI, hc, lft]
    rw [if_pos (by omega)]
  · simp (maxSteps := 10000000) (disch := first | assumption | omega) only [F_laws_szEntryS, params, EG, EL, ↓reduceIte, Nat.reduceEqDiff, Nat.reduceAdd, Nat.reduceSub, Nat.reduceMul, Nat.reduceLeDiff, Nat.reduceLT, Int.reduceLT, Int.reduceLE, Int.reduceEq, Int.reduceToNat, reduceCtorEq, FB, FT, cx_laws_szEntryS, cl_laws_szEntry, sem_laws_szEntry, wrapI, hc, loop_laws_szEntryS, goE_szR]
    unfold lft
    (repeat' split) <;> first | rfl | omega | (simp only [Option.some.injEq, Prod.mk.injEq, AV.int.injEq, AV.bool.injEq, AV.str.injEq, true_and, and_true]; omega)
theorem sem_laws_szMonitor (x : DMonitor) (g : gdMonitor x) (n : Int) (h1 : -1 ≤ n) (h2 : n ≤ 4611686018427387904) : S_laws_szMonitor.sem [.agg (cMonitor x), .int .i64 n] = some (.int .i64 (lft n (wtMonitor x)), []) := by
  obtain ⟨g0, ⟨g1, g1e⟩, ⟨g2, g2e⟩, ⟨g3, g3e⟩⟩ := (show gdS x.Name ∧ (x.Vars.length ≤ 140737488351232 ∧ ∀ y ∈ x.Vars, gdS y) ∧ (x.Queues.length ≤ 140737488351232 ∧ ∀ y ∈ x.Queues, gdS y) ∧ (x.Entries.length ≤ 140737488351232 ∧ ∀ y ∈ x.Entries, gdEntry y) from g)
  simp only [gdS] at g0
  unfold wtMonitor
  have kW := lft_or n (x.Name.size + (x.Vars.length + tot wtS x.Vars) + (x.Queues.length + tot wtS x.Queues) + (x.Entries.length + tot wtEntry x.Entries))
  rw [sg_laws_szMonitor, sem_go]
  by_cases c0 : n - ((x.Name.size : Nat) : Int) < 0
  · simp (maxSteps := 10000000) (disch := first | assumption | omega) only [F_laws_szMonitor, params, EG, EL, ↓reduceIte, Nat.reduceEqDiff, Nat.reduceAdd, Nat.reduceSub, Nat.reduceMul, Nat.reduceLeDiff, Nat.reduceLT, Int.reduceLT, Int.reduceLE, Int.reduceEq, Int.reduceToNat, reduceCtorEq, FB, FT, cx_laws_szMonitor, cl_laws_szStringS, sem_laws_szStringS, cl_laws_szEntryS, sem_laws_szEntryS, wrapI, neg1_lt, c0]
    first | done | (simp only [Option.some.injEq, Prod.mk.injEq, AV.int.injEq, AV.bool.injEq, AV.str.injEq, true_and, and_true]; omega)
  · skip
    rcases lft_or (n - ((x.Name.size : Nat) : Int)) (x.Vars.length + tot wtS x.Vars) with ⟨e1, f1⟩ | ⟨e1, f1⟩
    · simp (maxSteps := 10000000) (disch := first | assumption | omega) only [F_laws_szMonitor, params, EG, EL, ↓reduceIte, Nat.reduceEqDiff, Nat.reduceAdd, Nat.reduceSub, Nat.reduceMul, Nat.reduceLeDiff, Nat.reduceLT, Int.reduceLT, Int.reduceLE, Int.reduceEq, Int.reduceToNat, reduceCtorEq, FB, FT, cx_laws_szMonitor, cl_laws_szStringS, sem_laws_szStringS, cl_laws_szEntryS, sem_laws_szEntryS, wrapI, neg1_lt, c0, e1]
      first | done | (simp only [Option.some.injEq, Prod.mk.injEq, AV.int.injEq, AV.bool.injEq, AV.str.injEq, true_and, and_true]; omega)
    · have c1 : ¬ n - ((x.Name.size : Nat) : Int) - ((x.Vars.length + tot wtS x.Vars : Nat) : Int) < 0 := by omega
      rcases lft_or (n - ((x.Name.size : Nat) : Int) - ((x.Vars.length + tot wtS x.Vars : Nat) : Int)) (x.Queues.length + tot wtS x.Queues) with ⟨e2, f2⟩ | ⟨e2, f2⟩
      · simp (maxSteps := 10000000) (disch := first | assumption | omega) only [F_laws_szMonitor, params, EG, EL, ↓reduceIte, Nat.reduceEqDiff, Nat.reduceAdd, Nat.reduceSub, Nat.reduceMul, Nat.reduceLeDiff, Nat.reduceLT, Int.reduceLT, Int.reduceLE, Int.reduceEq, Int.reduceToNat, reduceCtorEq, FB, FT, cx_laws_szMonitor, cl_laws_szStringS, sem_laws_szStringS, cl_laws_szEntryS, sem_laws_szEntryS, wrapI, neg1_lt, c0, e1, c1, e2]
        first | done | (simp only [Option.some.injEq, Prod.mk.injEq, AV.int.injEq, AV.bool.injEq, AV.str.injEq, true_and, and_true]; omega)
      · have c2 : ¬ n - ((x.Name.size : Nat) : Int) - ((x.Vars.length + tot wtS x.Vars : Nat) : Int) - ((x.Queues.length + tot wtS x.Queues : Nat) : Int) < 0 := by omega
        rcases lft_or (n - ((x.Name.size : Nat) : Int) - ((x.Vars.length + tot wtS x.Vars : Nat) : Int) - ((x.Queues.length + tot wtS x.Queues : Nat) : Int)) (x.Entries.length + tot wtEntry x.Entries) with ⟨e3, f3⟩ | ⟨e3, f3⟩
        · simp (maxSteps := 10000000) (disch := first | assumption | omega) only [F_laws_szMonitor, params, EG, EL, ↓reduceIte, Nat.reduceEqDiff, Nat.reduceAdd, Nat.reduceSub, Nat.reduceMul, Nat.reduceLeDiff, Nat.reduceLT, Int.reduceLT, Int.reduceLE, Int.reduceEq, Int.reduceToNat, reduceCtorEq, FB, FT, cx_laws_szMonitor, cl_laws_szStringS, sem_laws_szStringS, cl_laws_szEntryS, sem_laws_szEntryS, wrapI, neg1_lt, c0, e1, c1, e2, c2, e3]
          first | done | (simp only [Option.some.injEq, Prod.mk.injEq, AV.int.injEq, AV.bool.injEq, AV.str.injEq, true_and, and_true]; omega)
        · have c3 : ¬ n - ((x.Name.size : Nat) : Int) - ((x.Vars.length + tot wtS x.Vars : Nat) : Int) - ((x.Queues.length + tot wtS x.Queues : Nat) : Int) - ((x.Entries.length + tot wtEntry x.Entries : Nat) : Int) < 0 := by omega
          simp (maxSteps := 10000000) (disch := first | assumption | omega) only [F_laws_szMonitor, params, EG, EL, ↓reduceIte, Nat.reduceEqDiff, Nat.reduceAdd, Nat.reduceSub, Nat.reduceMul, Nat.reduceLeDiff, Nat.reduceLT, Int.reduceLT, Int.reduceLE, Int.reduceEq, Int.reduceToNat, reduceCtorEq, FB, FT, cx_laws_szMonitor, cl_laws_szStringS, sem_laws_szStringS, cl_laws_szEntryS, sem_laws_szEntryS, wrapI, neg1_lt, c0, e1, c1, e2, c2, e3, c3]
          first | done | rfl | (simp only [Option.some.injEq, Prod.mk.injEq, AV.int.injEq, AV.bool.injEq, AV.str.injEq, true_and, and_true]; omega)
theorem loop_laws_szMonitorS (xs : List DMonitor) (g : ∀ y ∈ xs, gdMonitor y) (hl : xs.length ≤ 140737488351232) (n : Int) (h1 : 0 ≤ n) (h2 : n ≤ 4611686018427387904) :
    loopV X_laws_szMonitorS 0 [0, 1, 5] [(1, [1]), (0, [4])] B0_laws_szMonitorS ⟨[(0, .tree 4 (xs.map cMonitor)), (1, .int .i64 n), (5, .int .i64 0)], []⟩ = szR 4 n (tot wtMonitor xs) := by
  refine loop_list xs (fun _ m => 0 ≤ m ∧ m ≤ 4611686018427387904) (fun i (m : Int) => ⟨[(0, .tree 4 (xs.map cMonitor)), (1, .int .i64 m), (5, .int .i64 ((i : Nat) : Int))], []⟩) (fun rest m => szR 4 m (tot wtMonitor rest)) ?_ ?_ n ⟨h1, h2⟩
  · rintro m ⟨m1, m2⟩
    rw [loopV_by B0_laws_szMonitorS.eq_1]
    simp only [EG, EL, ↓reduceIte, Nat.reduceEqDiff, Nat.reduceAdd, Nat.reduceSub, Nat.reduceMul, Nat.reduceLeDiff, Nat.reduceLT, Int.reduceLT, Int.reduceLE, Int.reduceEq, Int.reduceToNat, reduceCtorEq, int_lt_irrefl]
    exact szR_zero m1
  · rintro i h x rest m rfl rfl ⟨m1, m2⟩ ih
    have hi : (i : Int) < (xs.length : Int) := by omega
    have hx := g _ (List.getElem_mem h)
    skip
    rw [loopV_by B0_laws_szMonitorS.eq_1]
    by_cases hc : m - ((wtMonitor xs[i] : Nat) : Int) < 0
    · have hq : lft m (wtMonitor xs[i]) = -1 := if_pos hc
      simp (maxSteps := 10000000) (disch := first | assumption | omega) only [EG, EL, ↓reduceIte, Nat.reduceEqDiff, Nat.reduceAdd, Nat.reduceSub, Nat.reduceMul, Nat.reduceLeDiff, Nat.reduceLT, Int.reduceLT, Int.reduceLE, Int.reduceEq, Int.reduceToNat, reduceCtorEq, FB, FT, hi, wrap_succ, getRow _ _ h, cx_laws_szMonitorS, cl_laws_szMonitor, sem_laws_szMonitor, hc, hq, neg1_lt]
      exact szR_neg hc
    · have hq : lft m (wtMonitor xs[i]) = m - ((wtMonitor xs[i] : Nat) : Int) := if_neg hc
      simp (maxSteps := 10000000) (disch := first | assumption | omega) only [EG, EL, ↓reduceIte, Nat.reduceEqDiff, Nat.reduceAdd, Nat.reduceSub, Nat.reduceMul, Nat.reduceLeDiff, Nat.reduceLT, Int.reduceLT, Int.reduceLE, Int.reduceEq, Int.reduceToNat, reduceCtorEq, FB, FT, hi, wrap_succ, getRow _ _ h, cx_laws_szMonitorS, cl_laws_szMonitor, sem_laws_szMonitor, hc, hq, neg1_lt]
      skip
      rw [ih _ ⟨by omega, by omega⟩]
      exact szR_pos
theorem sem_laws_szMonitorS (xs : List DMonitor) (h : xs.length ≤ 140737488351232) (g : ∀ y ∈ xs, gdMonitor y) (n : Int) (h1 : -1 ≤ n) (h2 : n ≤ 4611686018427387904) : S_laws_szMonitorS.sem [.tree 4 (xs.map cMonitor), .int .i64 n] = some (.int .i64 (lft n (xs.length + tot wtMonitor xs)), []) := by
  rw [sg_laws_szMonitorS, sem_go]
  by_cases hc : n - (xs.length : Int) < 0
  · simp (maxSteps := 10000000) (disch := omega) only [F_laws_szMonitorS, params, EG, EL, ↓reduceIte, Nat.reduceEqDiff, Nat.reduceAdd, Nat.reduceSub, Nat.reduceMul, Nat.reduceLeDiff, Nat.reduceLT, Int.reduceLT, Int.reduceLE, Int.reduceEq, Int.reduceToNat, reduceCtorEq, FB, FT, cx_laws_szMonitorS, cl_laws_szMonitor, sem_laws_szMonitor, wrapI, hc, lft]
    rw [if_pos (by omega)]
  · simp (maxSteps := 10000000) (disch := first | assumption | omega) only [F_laws_szMonitorS, params, EG, EL, ↓reduceIte, Nat.reduceEqDiff, Nat.reduceAdd, Nat.reduceSub, Nat.reduceMul, Nat.reduceLeDiff, Nat.reduceLT, Int.reduceLT, Int.reduceLE, Int.reduceEq, Int.reduceToNat, reduceCtorEq, FB, FT, cx_laws_szMonitorS, cl_laws_szMonitor, sem_laws_szMonitor, wrapI, hc, loop_laws_szMonitorS, goE_szR]
    unfold lft
    (repeat' split) <;> first | rfl | omega | (simp only [Option.some.injEq, Prod.mk.injEq, AV.int.injEq, AV.bool.injEq, AV.str.injEq, true_and, and_true]; omega)
theorem sem_laws_szProcess (x : DProcess) (g : gdProcess x) (n : Int) (h1 : -1 ≤ n) (h2 : n ≤ 4611686018427387904) : S_laws_szProcess.sem [.agg (cProcess x), .int .i64 n] = some (.int .i64 (lft n (wtProcess x)), []) := by
  obtain ⟨g0, ⟨g1, g1e⟩, ⟨g2, g2e⟩, g3⟩ := (show gdS x.Name ∧ (x.Uses.length ≤ 140737488351232 ∧ ∀ y ∈ x.Uses, gdS y) ∧ (x.Vars.length ≤ 140737488351232 ∧ ∀ y ∈ x.Vars, gdS y) ∧ i64 x.Body from g)
  simp only [gdS] at g0
  unfold wtProcess
  have kW := lft_or n (x.Name.size + (x.Uses.length + tot wtS x.Uses) + (x.Vars.length + tot wtS x.Vars))
  rw [sg_laws_szProcess, sem_go]
  by_cases c0 : n - ((x.Name.size : Nat) : Int) < 0
  · simp (maxSteps := 10000000) (disch := first | assumption | omega) only [F_laws_szProcess, params, EG, EL, ↓reduceIte, Nat.reduceEqDiff, Nat.reduceAdd, Nat.reduceSub, Nat.reduceMul, Nat.reduceLeDiff, Nat.reduceLT, Int.reduceLT, Int.reduceLE, Int.reduceEq, Int.reduceToNat, reduceCtorEq, FB, FT, cx_laws_szProcess, cl_laws_szStringS, sem_laws_szStringS, wrapI, neg1_lt, c0]
    first | done | (simp only [Option.some.injEq, Prod.mk.injEq, AV.int.injEq, AV.bool.injEq, AV.str.injEq, true_and, and_true]; omega)
  · skip
    rcases lft_or (n - ((x.Name.size : Nat) : Int)) (x.Uses.length + tot wtS x.Uses) with ⟨e1, f1⟩ | ⟨e1, f1⟩
    · simp (maxSteps := 10000000) (disch := first | assumption | omega) only [F_laws_szProcess, params, EG, EL, ↓reduceIte, Nat.reduceEqDiff, Nat.reduceAdd, Nat.reduceSub, Nat.reduceMul, Nat.reduceLeDiff, Nat.reduceLT, Int.reduceLT, Int.reduceLE, Int.reduceEq, Int.reduceToNat, reduceCtorEq, FB, FT, cx_laws_szProcess, cl_laws_szStringS, sem_laws_szStringS, wrapI, neg1_lt, c0, e1]
      first | done | (simp only [Option.some.injEq, Prod.mk.injEq, AV.int.injEq, AV.bool.injEq, AV.str.injEq, true_and, and_true]; omega)
    · have c1 : ¬ n - ((x.Name.size : Nat) : Int) - ((x.Uses.length + tot wtS x.Uses : Nat) : Int) < 0 := by omega
      rcases lft_or (n - ((x.Name.size : Nat) : Int) - ((x.Uses.length + tot wtS x.Uses : Nat) : Int)) (x.Vars.length + tot wtS x.Vars) with ⟨e2, f2⟩ | ⟨e2, f2⟩
      · simp (maxSteps := 10000000) (disch := first | assumption | omega) only [F_laws_szProcess, params, EG, EL, ↓reduceIte, Nat.reduceEqDiff, Nat.reduceAdd, Nat.reduceSub, Nat.reduceMul, Nat.reduceLeDiff, Nat.reduceLT, Int.reduceLT, Int.reduceLE, Int.reduceEq, Int.reduceToNat, reduceCtorEq, FB, FT, cx_laws_szProcess, cl_laws_szStringS, sem_laws_szStringS, wrapI, neg1_lt, c0, e1, c1, e2]
        first | done | (simp only [Option.some.injEq, Prod.mk.injEq, AV.int.injEq, AV.bool.injEq, AV.str.injEq, true_and, and_true]; omega)
      · have c2 : ¬ n - ((x.Name.size : Nat) : Int) - ((x.Uses.length + tot wtS x.Uses : Nat) : Int) - ((x.Vars.length + tot wtS x.Vars : Nat) : Int) < 0 := by omega
        simp (maxSteps := 10000000) (disch := first | assumption | omega) only [F_laws_szProcess, params, EG, EL, ↓reduceIte, Nat.reduceEqDiff, Nat.reduceAdd, Nat.reduceSub, Nat.reduceMul, Nat.reduceLeDiff, Nat.reduceLT, Int.reduceLT, Int.reduceLE, Int.reduceEq, Int.reduceToNat, reduceCtorEq, FB, FT, cx_laws_szProcess, cl_laws_szStringS, sem_laws_szStringS, wrapI, neg1_lt, c0, e1, c1, e2, c2]
        first | done | rfl | (simp only [Option.some.injEq, Prod.mk.injEq, AV.int.injEq, AV.bool.injEq, AV.str.injEq, true_and, and_true]; omega)
theorem loop_laws_szProcessS (xs : List DProcess) (g : ∀ y ∈ xs, gdProcess y) (hl : xs.length ≤ 140737488351232) (n : Int) (h1 : 0 ≤ n) (h2 : n ≤ 4611686018427387904) :
    loopV X_laws_szProcessS 0 [0, 1, 5] [(1, [1]), (0, [4])] B0_laws_szProcessS ⟨[(0, .tree 4 (xs.map cProcess)), (1, .int .i64 n), (5, .int .i64 0)], []⟩ = szR 4 n (tot wtProcess xs) := by
  refine loop_list xs (fun _ m => 0 ≤ m ∧ m ≤ 4611686018427387904) (fun i (m : Int) => ⟨[(0, .tree 4 (xs.map cProcess)), (1, .int .i64 m), (5, .int .i64 ((i : Nat) : Int))], []⟩) (fun rest m => szR 4 m (tot wtProcess rest)) ?_ ?_ n ⟨h1, h2⟩
  · rintro m ⟨m1, m2⟩
    rw [loopV_by B0_laws_szProcessS.eq_1]
    simp only [EG, EL, ↓reduceIte, Nat.reduceEqDiff, Nat.reduceAdd, Nat.reduceSub, Nat.reduceMul, Nat.reduceLeDiff, Nat.reduceLT, Int.reduceLT, Int.reduceLE, Int.reduceEq, Int.reduceToNat, reduceCtorEq, int_lt_irrefl]
    exact szR_zero m1
  · rintro i h x rest m rfl rfl ⟨m1, m2⟩ ih
    have hi : (i : Int) < (xs.length : Int) := by omega
    have hx := g _ (List.getElem_mem h)
    skip
    rw [loopV_by B0_laws_szProcessS.eq_1]
    by_cases hc : m - ((wtProcess xs[i] : Nat) : Int) < 0
    · have hq : lft m (wtProcess xs[i]) = -1 := if_pos hc
      simp (maxSteps := 10000000) (disch := first | assumption | omega) only [EG, EL, ↓reduceIte, Nat.reduceEqDiff, Nat.reduceAdd, Nat.reduceSub, Nat.reduceMul, Nat.reduceLeDiff, Nat.reduceLT, Int.reduceLT, Int.reduceLE, Int.reduceEq, Int.reduceToNat, reduceCtorEq, FB, FT, hi, wrap_succ, getRow _ _ h, cx_laws_szProcessS, cl_laws_szProcess, sem_laws_szProcess, hc, hq, neg1_lt]
      exact szR_neg hc
    · have hq : lft m (wtProcess xs[i]) = m - ((wtProcess xs[i] : Nat) : Int) := if_neg hc
      simp (maxSteps := 10000000) (disch := first | assumption | omega) only [EG, EL, ↓reduceIte, Nat.reduceEqDiff, Nat.reduceAdd, Nat.reduceSub, Nat.reduceMul, Nat.reduceLeDiff, Nat.reduceLT, Int.reduceLT, Int.reduceLE, Int.reduceEq, Int.reduceToNat, reduceCtorEq, FB, FT, hi, wrap_succ, getRow _ _ h, cx_laws_szProcessS, cl_laws_szProcess, sem_laws_szProcess, hc, hq, neg1_lt]
      skip
      rw [ih _ ⟨by omega, by omega⟩]
      exact szR_pos
theorem sem_laws_szProcessS (xs : List DProcess) (h : xs.length ≤ 140737488351232) (g : ∀ y ∈ xs, gdProcess y) (n : Int) (h1 : -1 ≤ n) (h2 : n ≤ 4611686018427387904) : S_laws_szProcessS.sem [.tree 4 (xs.map cProcess), .int .i64 n] = some (.int .i64 (lft n (xs.length + tot wtProcess xs)), []) := by
  rw [sg_laws_szProcessS, sem_go]
  by_cases hc : n - (xs.length : Int) < 0
  · simp (maxSteps := 10000000) (disch := omega) only [F_laws_szProcessS, params, EG, EL, ↓reduceIte, Nat.reduceEqDiff, Nat.reduceAdd, Nat.reduceSub, Nat.reduceMul, Nat.reduceLeDiff, Nat.reduceLT, Int.reduceLT, Int.reduceLE, Int.reduceEq, Int.reduceToNat, reduceCtorEq, FB, FT, cx_laws_szProcessS, cl_laws_szProcess, sem_laws_szProcess, wrapI, hc, lft]
    rw [if_pos (by omega)]
  · simp (maxSteps := 10000000) (disch := first | assumption | omega) only [F_laws_szProcessS, params, EG, EL, ↓reduceIte, Nat.reduceEqDiff, Nat.reduceAdd, Nat.reduceSub, Nat.reduceMul, Nat.reduceLeDiff, Nat.reduceLT, Int.reduceLT, Int.reduceLE, Int.reduceEq, Int.reduceToNat, reduceCtorEq, FB, FT, cx_laws_szProcessS, cl_laws_szProcess, sem_laws_szProcess, wrapI, hc, loop_laws_szProcessS, goE_szR]
    unfold lft
    (repeat' split) <;> first | rfl | omega | (simp only [Option.some.injEq, Prod.mk.injEq, AV.int.injEq, AV.bool.injEq, AV.str.injEq, true_and, and_true]; omega)
theorem sem_laws_szProgram (x : DProgram) (g : gdProgram x) (n : Int) (h1 : -1 ≤ n) (h2 : n ≤ 4611686018427387904) : S_laws_szProgram.sem [.agg (cProgram x), .int .i64 n] = some (.int .i64 (lft n (wtProgram x)), []) := by
  obtain ⟨⟨g0, g0e⟩, ⟨g1, g1e⟩, ⟨g2, g2e⟩⟩ := (show (x.Nodes.length ≤ 140737488351232 ∧ ∀ y ∈ x.Nodes, gdNode y) ∧ (x.Monitors.length ≤ 140737488351232 ∧ ∀ y ∈ x.Monitors, gdMonitor y) ∧ (x.Processes.length ≤ 140737488351232 ∧ ∀ y ∈ x.Processes, gdProcess y) from g)
  skip
  unfold wtProgram
  have kW := lft_or n ((x.Nodes.length + tot wtNode x.Nodes) + (x.Monitors.length + tot wtMonitor x.Monitors) + (x.Processes.length + tot wtProcess x.Processes))
  rw [sg_laws_szProgram, sem_go]
  rcases lft_or (n) (x.Nodes.length + tot wtNode x.Nodes) with ⟨e0, f0⟩ | ⟨e0, f0⟩
  · simp (maxSteps := 10000000) (disch := first | assumption | omega) only [F_laws_szProgram, params, EG, EL, ↓reduceIte, Nat.reduceEqDiff, Nat.reduceAdd, Nat.reduceSub, Nat.reduceMul, Nat.reduceLeDiff, Nat.reduceLT, Int.reduceLT, Int.reduceLE, Int.reduceEq, Int.reduceToNat, reduceCtorEq, FB, FT, cx_laws_szProgram, cl_laws_szNodeS, sem_laws_szNodeS, cl_laws_szMonitorS, sem_laws_szMonitorS, cl_laws_szProcessS, sem_laws_szProcessS, wrapI, neg1_lt, e0]
    first | done | (simp only [Option.some.injEq, Prod.mk.injEq, AV.int.injEq, AV.bool.injEq, AV.str.injEq, true_and, and_true]; omega)
  · have c0 : ¬ n - ((x.Nodes.length + tot wtNode x.Nodes : Nat) : Int) < 0 := by omega
    rcases lft_or (n - ((x.Nodes.length + tot wtNode x.Nodes : Nat) : Int)) (x.Monitors.length + tot wtMonitor x.Monitors) with ⟨e1, f1⟩ | ⟨e1, f1⟩
    · simp (maxSteps := 10000000) (disch := first | assumption | omega) only [F_laws_szProgram, params, EG, EL, ↓reduceIte, Nat.reduceEqDiff, Nat.reduceAdd, Nat.reduceSub, Nat.reduceMul, Nat.reduceLeDiff, Nat.reduceLT, Int.reduceLT, Int.reduceLE, Int.reduceEq, Int.reduceToNat, reduceCtorEq, FB, FT, cx_laws_szProgram, cl_laws_szNodeS, sem_laws_szNodeS, cl_laws_szMonitorS, sem_laws_szMonitorS, cl_laws_szProcessS, sem_laws_szProcessS, wrapI, neg1_lt, e0, c0, e1]
      first | done | (simp only [Option.some.injEq, Prod.mk.injEq, AV.int.injEq, AV.bool.injEq, AV.str.injEq, true_and, and_true]; omega)
    · have c1 : ¬ n - ((x.Nodes.length + tot wtNode x.Nodes : Nat) : Int) - ((x.Monitors.length + tot wtMonitor x.Monitors : Nat) : Int) < 0 := by omega
      rcases lft_or (n - ((x.Nodes.length + tot wtNode x.Nodes : Nat) : Int) - ((x.Monitors.length + tot wtMonitor x.Monitors : Nat) : Int)) (x.Processes.length + tot wtProcess x.Processes) with ⟨e2, f2⟩ | ⟨e2, f2⟩
      · simp (maxSteps := 10000000) (disch := first | assumption | omega) only [F_laws_szProgram, params, EG, EL, ↓reduceIte, Nat.reduceEqDiff, Nat.reduceAdd, Nat.reduceSub, Nat.reduceMul, Nat.reduceLeDiff, Nat.reduceLT, Int.reduceLT, Int.reduceLE, Int.reduceEq, Int.reduceToNat, reduceCtorEq, FB, FT, cx_laws_szProgram, cl_laws_szNodeS, sem_laws_szNodeS, cl_laws_szMonitorS, sem_laws_szMonitorS, cl_laws_szProcessS, sem_laws_szProcessS, wrapI, neg1_lt, e0, c0, e1, c1, e2]
        first | done | (simp only [Option.some.injEq, Prod.mk.injEq, AV.int.injEq, AV.bool.injEq, AV.str.injEq, true_and, and_true]; omega)
      · have c2 : ¬ n - ((x.Nodes.length + tot wtNode x.Nodes : Nat) : Int) - ((x.Monitors.length + tot wtMonitor x.Monitors : Nat) : Int) - ((x.Processes.length + tot wtProcess x.Processes : Nat) : Int) < 0 := by omega
        simp (maxSteps := 10000000) (disch := first | assumption | omega) only [F_laws_szProgram, params, EG, EL, ↓reduceIte, Nat.reduceEqDiff, Nat.reduceAdd, Nat.reduceSub, Nat.reduceMul, Nat.reduceLeDiff, Nat.reduceLT, Int.reduceLT, Int.reduceLE, Int.reduceEq, Int.reduceToNat, reduceCtorEq, FB, FT, cx_laws_szProgram, cl_laws_szNodeS, sem_laws_szNodeS, cl_laws_szMonitorS, sem_laws_szMonitorS, cl_laws_szProcessS, sem_laws_szProcessS, wrapI, neg1_lt, e0, c0, e1, c1, e2, c2]
        first | done | rfl | (simp only [Option.some.injEq, Prod.mk.injEq, AV.int.injEq, AV.bool.injEq, AV.str.injEq, true_and, and_true]; omega)
theorem loop_laws_toIntS (xs : List Int) (hl : xs.length ≤ 1048576) :
    loopV X_laws_toIntS 0 [0, 3, 4] [(1, [3])] B0_laws_toIntS ⟨[(0, .tree 1 (xs.map cI)), (3, .sl ⟨0, none, 0⟩ 1 0 xs.length), (4, .int .i64 0)], [some ⟨false, 0, 1, fillR cI [.int .i64 0] xs 0⟩]⟩ = some (.exit 0, ⟨[(3, .sl ⟨0, none, 0⟩ 1 0 xs.length)], [some ⟨false, 0, 1, xs.map cI⟩]⟩) := by
  refine loop_list xs (fun _ (_ : Unit) => True) (fun i _ => ⟨[(0, .tree 1 (xs.map cI)), (3, .sl ⟨0, none, 0⟩ 1 0 xs.length), (4, .int .i64 ((i : Nat) : Int))], [some ⟨false, 0, 1, fillR cI [.int .i64 0] xs i⟩]⟩) (fun _ _ => some (.exit 0, ⟨[(3, .sl ⟨0, none, 0⟩ 1 0 xs.length)], [some ⟨false, 0, 1, xs.map cI⟩]⟩)) ?_ ?_ () trivial
  · intro _ _
    rw [loopV_by B0_laws_toIntS.eq_1]
    simp only [EG, EL, ↓reduceIte, Nat.reduceEqDiff, Nat.reduceAdd, Nat.reduceSub, Nat.reduceMul, Nat.reduceLeDiff, Nat.reduceLT, Int.reduceLT, Int.reduceLE, Int.reduceEq, Int.reduceToNat, reduceCtorEq, int_lt_irrefl, fillR_end]
  · rintro i h x rest _ rfl rfl _ ih
    have hi : (i : Int) < (xs.length : Int) := by omega
    skip
    have hf := fillR_set (c := cI) (z := [.int .i64 0]) h rfl
    simp only [cI] at hf
    rw [loopV_by B0_laws_toIntS.eq_1]
    simp (maxSteps := 10000000) (disch := first | assumption | omega) only [EG, EL, ↓reduceIte, Nat.reduceEqDiff, Nat.reduceAdd, Nat.reduceSub, Nat.reduceMul, Nat.reduceLeDiff, Nat.reduceLT, Int.reduceLT, Int.reduceLE, Int.reduceEq, Int.reduceToNat, reduceCtorEq, FB, FT, hi, h, wrap_succ, getRow _ _ h, fillR_get h, fillR_length (Nat.le_of_lt h), cx_laws_toIntS]
    simp only [splice_eq, EG, EL, ↓reduceIte, Nat.reduceEqDiff, Nat.reduceAdd, Nat.reduceSub, Nat.reduceMul, Nat.reduceLeDiff, Nat.reduceLT, Int.reduceLT, Int.reduceLE, Int.reduceEq, Int.reduceToNat, reduceCtorEq, hf]
    exact ih () trivial
theorem sem_laws_toIntS (xs : List Int) (h : xs.length ≤ 1048576) : S_laws_toIntS.sem [.tree 1 (xs.map cI)] = some (.tree 1 (xs.map cI), []) := by
  rw [sg_laws_toIntS, sem_go]
  simp (maxSteps := 10000000) (disch := omega) only [F_laws_toIntS, params, EG, EL, ↓reduceIte, Nat.reduceEqDiff, Nat.reduceAdd, Nat.reduceSub, Nat.reduceMul, Nat.reduceLeDiff, Nat.reduceLT, Int.reduceLT, Int.reduceLE, Int.reduceEq, Int.reduceToNat, reduceCtorEq, FB, FT, cx_laws_toIntS, fillR_zero cI, loop_laws_toIntS xs h]
  rw [if_pos (by omega)]
theorem sem_laws_toNode (x : DNode) (h : wtNode x ≤ 1048576) : S_laws_toNode.sem [.agg (cNode x)] = some (.agg (cNode x), []) := by
  unfold wtNode at h
  rw [sg_laws_toNode, sem_go]
  simp (maxSteps := 10000000) (disch := omega) only [F_laws_toNode, params, EG, EL, ↓reduceIte, Nat.reduceEqDiff, Nat.reduceAdd, Nat.reduceSub, Nat.reduceMul, Nat.reduceLeDiff, Nat.reduceLT, Int.reduceLT, Int.reduceLE, Int.reduceEq, Int.reduceToNat, reduceCtorEq, FB, FT, cx_laws_toNode, cl_laws_toIntS, sem_laws_toIntS]
theorem loop_laws_toNodeS (xs : List DNode) (hl : xs.length + tot wtNode xs ≤ 1048576) :
    loopV X_laws_toNodeS 0 [0, 3, 4] [(1, [3])] B0_laws_toNodeS ⟨[(0, .tree 6 (xs.map cNode)), (3, .sl ⟨0, none, 0⟩ 6 0 xs.length), (4, .int .i64 0)], [some ⟨false, 0, 6, fillR cNode [.int .i64 0, .int .i64 0, .str ⟨#[]⟩, .str ⟨#[]⟩, .str ⟨#[]⟩, .tree 1 []] xs 0⟩]⟩ = some (.exit 0, ⟨[(3, .sl ⟨0, none, 0⟩ 6 0 xs.length)], [some ⟨false, 0, 6, xs.map cNode⟩]⟩) := by
  refine loop_list xs (fun _ (_ : Unit) => True) (fun i _ => ⟨[(0, .tree 6 (xs.map cNode)), (3, .sl ⟨0, none, 0⟩ 6 0 xs.length), (4, .int .i64 ((i : Nat) : Int))], [some ⟨false, 0, 6, fillR cNode [.int .i64 0, .int .i64 0, .str ⟨#[]⟩, .str ⟨#[]⟩, .str ⟨#[]⟩, .tree 1 []] xs i⟩]⟩) (fun _ _ => some (.exit 0, ⟨[(3, .sl ⟨0, none, 0⟩ 6 0 xs.length)], [some ⟨false, 0, 6, xs.map cNode⟩]⟩)) ?_ ?_ () trivial
  · intro _ _
    rw [loopV_by B0_laws_toNodeS.eq_1]
    simp only [EG, EL, ↓reduceIte, Nat.reduceEqDiff, Nat.reduceAdd, Nat.reduceSub, Nat.reduceMul, Nat.reduceLeDiff, Nat.reduceLT, Int.reduceLT, Int.reduceLE, Int.reduceEq, Int.reduceToNat, reduceCtorEq, int_lt_irrefl, fillR_end]
  · rintro i h x rest _ rfl rfl _ ih
    have hi : (i : Int) < (xs.length : Int) := by omega
    have hx : wtNode xs[i] ≤ 1048576 := by have := le_tot wtNode (List.getElem_mem h); omega
    have hf := fillR_set (c := cNode) (z := [.int .i64 0, .int .i64 0, .str ⟨#[]⟩, .str ⟨#[]⟩, .str ⟨#[]⟩, .tree 1 []]) h rfl
    simp only [cNode] at hf
    rw [loopV_by B0_laws_toNodeS.eq_1]
    simp (maxSteps := 10000000) (disch := first | assumption | omega) only [EG, EL, ↓reduceIte, Nat.reduceEqDiff, Nat.reduceAdd, Nat.reduceSub, Nat.reduceMul, Nat.reduceLeDiff, Nat.reduceLT, Int.reduceLT, Int.reduceLE, Int.reduceEq, Int.reduceToNat, reduceCtorEq, FB, FT, hi, h, wrap_succ, getRow _ _ h, fillR_get h, fillR_length (Nat.le_of_lt h), cx_laws_toNodeS, cl_laws_toNode, sem_laws_toNode]
    simp only [splice_eq, EG, EL, ↓reduceIte, Nat.reduceEqDiff, Nat.reduceAdd, Nat.reduceSub, Nat.reduceMul, Nat.reduceLeDiff, Nat.reduceLT, Int.reduceLT, Int.reduceLE, Int.reduceEq, Int.reduceToNat, reduceCtorEq, hf]
    exact ih () trivial
theorem sem_laws_toNodeS (xs : List DNode) (h : xs.length + tot wtNode xs ≤ 1048576) : S_laws_toNodeS.sem [.tree 6 (xs.map cNode)] = some (.tree 6 (xs.map cNode), []) := by
  rw [sg_laws_toNodeS, sem_go]
  simp (maxSteps := 10000000) (disch := omega) only [F_laws_toNodeS, params, EG, EL, ↓reduceIte, Nat.reduceEqDiff, Nat.reduceAdd, Nat.reduceSub, Nat.reduceMul, Nat.reduceLeDiff, Nat.reduceLT, Int.reduceLT, Int.reduceLE, Int.reduceEq, Int.reduceToNat, reduceCtorEq, FB, FT, cx_laws_toNodeS, cl_laws_toNode, sem_laws_toNode, fillR_zero cNode, loop_laws_toNodeS xs h]
  rw [if_pos (by omega)]
theorem loop_laws_toStringS (xs : List ByteArray) (hl : xs.length + tot wtS xs ≤ 1048576) :
    loopV X_laws_toStringS 0 [0, 3, 4] [(1, [3])] B0_laws_toStringS ⟨[(0, .tree 1 (xs.map cS)), (3, .sl ⟨0, none, 0⟩ 1 0 xs.length), (4, .int .i64 0)], [some ⟨false, 0, 1, fillR cS [.str ⟨#[]⟩] xs 0⟩]⟩ = some (.exit 0, ⟨[(3, .sl ⟨0, none, 0⟩ 1 0 xs.length)], [some ⟨false, 0, 1, xs.map cS⟩]⟩) := by
  refine loop_list xs (fun _ (_ : Unit) => True) (fun i _ => ⟨[(0, .tree 1 (xs.map cS)), (3, .sl ⟨0, none, 0⟩ 1 0 xs.length), (4, .int .i64 ((i : Nat) : Int))], [some ⟨false, 0, 1, fillR cS [.str ⟨#[]⟩] xs i⟩]⟩) (fun _ _ => some (.exit 0, ⟨[(3, .sl ⟨0, none, 0⟩ 1 0 xs.length)], [some ⟨false, 0, 1, xs.map cS⟩]⟩)) ?_ ?_ () trivial
  · intro _ _
    rw [loopV_by B0_laws_toStringS.eq_1]
    simp only [EG, EL, ↓reduceIte, Nat.reduceEqDiff, Nat.reduceAdd, Nat.reduceSub, Nat.reduceMul, Nat.reduceLeDiff, Nat.reduceLT, Int.reduceLT, Int.reduceLE, Int.reduceEq, Int.reduceToNat, reduceCtorEq, int_lt_irrefl, fillR_end]
  · rintro i h x rest _ rfl rfl _ ih
    have hi : (i : Int) < (xs.length : Int) := by omega
    skip
    have hf := fillR_set (c := cS) (z := [.str ⟨#[]⟩]) h rfl
    simp only [cS] at hf
    rw [loopV_by B0_laws_toStringS.eq_1]
    simp (maxSteps := 10000000) (disch := first | assumption | omega) only [EG, EL, ↓reduceIte, Nat.reduceEqDiff, Nat.reduceAdd, Nat.reduceSub, Nat.reduceMul, Nat.reduceLeDiff, Nat.reduceLT, Int.reduceLT, Int.reduceLE, Int.reduceEq, Int.reduceToNat, reduceCtorEq, FB, FT, hi, h, wrap_succ, getRow _ _ h, fillR_get h, fillR_length (Nat.le_of_lt h), cx_laws_toStringS]
    simp only [splice_eq, EG, EL, ↓reduceIte, Nat.reduceEqDiff, Nat.reduceAdd, Nat.reduceSub, Nat.reduceMul, Nat.reduceLeDiff, Nat.reduceLT, Int.reduceLT, Int.reduceLE, Int.reduceEq, Int.reduceToNat, reduceCtorEq, hf]
    exact ih () trivial
theorem sem_laws_toStringS (xs : List ByteArray) (h : xs.length + tot wtS xs ≤ 1048576) : S_laws_toStringS.sem [.tree 1 (xs.map cS)] = some (.tree 1 (xs.map cS), []) := by
  rw [sg_laws_toStringS, sem_go]
  simp (maxSteps := 10000000) (disch := omega) only [F_laws_toStringS, params, EG, EL, ↓reduceIte, Nat.reduceEqDiff, Nat.reduceAdd, Nat.reduceSub, Nat.reduceMul, Nat.reduceLeDiff, Nat.reduceLT, Int.reduceLT, Int.reduceLE, Int.reduceEq, Int.reduceToNat, reduceCtorEq, FB, FT, cx_laws_toStringS, fillR_zero cS, loop_laws_toStringS xs h]
  rw [if_pos (by omega)]
theorem sem_laws_toEntry (x : DEntry) (h : wtEntry x ≤ 1048576) : S_laws_toEntry.sem [.agg (cEntry x)] = some (.agg (cEntry x), []) := by
  unfold wtEntry at h
  rw [sg_laws_toEntry, sem_go]
  simp (maxSteps := 10000000) (disch := omega) only [F_laws_toEntry, params, EG, EL, ↓reduceIte, Nat.reduceEqDiff, Nat.reduceAdd, Nat.reduceSub, Nat.reduceMul, Nat.reduceLeDiff, Nat.reduceLT, Int.reduceLT, Int.reduceLE, Int.reduceEq, Int.reduceToNat, reduceCtorEq, FB, FT, cx_laws_toEntry]
theorem loop_laws_toEntryS (xs : List DEntry) (hl : xs.length + tot wtEntry xs ≤ 1048576) :
    loopV X_laws_toEntryS 0 [0, 3, 4] [(1, [3])] B0_laws_toEntryS ⟨[(0, .tree 3 (xs.map cEntry)), (3, .sl ⟨0, none, 0⟩ 3 0 xs.length), (4, .int .i64 0)], [some ⟨false, 0, 3, fillR cEntry [.str ⟨#[]⟩, .str ⟨#[]⟩, .int .i64 0] xs 0⟩]⟩ = some (.exit 0, ⟨[(3, .sl ⟨0, none, 0⟩ 3 0 xs.length)], [some ⟨false, 0, 3, xs.map cEntry⟩]⟩) := by
  refine loop_list xs (fun _ (_ : Unit) => True) (fun i _ => ⟨[(0, .tree 3 (xs.map cEntry)), (3, .sl ⟨0, none, 0⟩ 3 0 xs.length), (4, .int .i64 ((i : Nat) : Int))], [some ⟨false, 0, 3, fillR cEntry [.str ⟨#[]⟩, .str ⟨#[]⟩, .int .i64 0] xs i⟩]⟩) (fun _ _ => some (.exit 0, ⟨[(3, .sl ⟨0, none, 0⟩ 3 0 xs.length)], [some ⟨false, 0, 3, xs.map cEntry⟩]⟩)) ?_ ?_ () trivial
  · intro _ _
    rw [loopV_by B0_laws_toEntryS.eq_1]
    simp only [EG, EL, ↓reduceIte, Nat.reduceEqDiff, Nat.reduceAdd, Nat.reduceSub, Nat.reduceMul, Nat.reduceLeDiff, Nat.reduceLT, Int.reduceLT, Int.reduceLE, Int.reduceEq, Int.reduceToNat, reduceCtorEq, int_lt_irrefl, fillR_end]
  · rintro i h x rest _ rfl rfl _ ih
    have hi : (i : Int) < (xs.length : Int) := by omega
    have hx : wtEntry xs[i] ≤ 1048576 := by have := le_tot wtEntry (List.getElem_mem h); omega
    have hf := fillR_set (c := cEntry) (z := [.str ⟨#[]⟩, .str ⟨#[]⟩, .int .i64 0]) h rfl
    simp only [cEntry] at hf
    rw [loopV_by B0_laws_toEntryS.eq_1]
    simp (maxSteps := 10000000) (disch := first | assumption | omega) only [EG, EL, ↓reduceIte, Nat.reduceEqDiff, Nat.reduceAdd, Nat.reduceSub, Nat.reduceMul, Nat.reduceLeDiff, Nat.reduceLT, Int.reduceLT, Int.reduceLE, Int.reduceEq, Int.reduceToNat, reduceCtorEq, FB, FT, hi, h, wrap_succ, getRow _ _ h, fillR_get h, fillR_length (Nat.le_of_lt h), cx_laws_toEntryS, cl_laws_toEntry, sem_laws_toEntry]
    simp only [splice_eq, EG, EL, ↓reduceIte, Nat.reduceEqDiff, Nat.reduceAdd, Nat.reduceSub, Nat.reduceMul, Nat.reduceLeDiff, Nat.reduceLT, Int.reduceLT, Int.reduceLE, Int.reduceEq, Int.reduceToNat, reduceCtorEq, hf]
    exact ih () trivial
theorem sem_laws_toEntryS (xs : List DEntry) (h : xs.length + tot wtEntry xs ≤ 1048576) : S_laws_toEntryS.sem [.tree 3 (xs.map cEntry)] = some (.tree 3 (xs.map cEntry), []) := by
  rw [sg_laws_toEntryS, sem_go]
  simp (maxSteps := 10000000) (disch := omega) only [F_laws_toEntryS, params, EG, EL, ↓reduceIte, Nat.reduceEqDiff, Nat.reduceAdd, Nat.reduceSub, Nat.reduceMul, Nat.reduceLeDiff, Nat.reduceLT, Int.reduceLT, Int.reduceLE, Int.reduceEq, Int.reduceToNat, reduceCtorEq, FB, FT, cx_laws_toEntryS, cl_laws_toEntry, sem_laws_toEntry, fillR_zero cEntry, loop_laws_toEntryS xs h]
  rw [if_pos (by omega)]
theorem sem_laws_toMonitor (x : DMonitor) (h : wtMonitor x ≤ 1048576) : S_laws_toMonitor.sem [.agg (cMonitor x)] = some (.agg (cMonitor x), []) := by
  unfold wtMonitor at h
  rw [sg_laws_toMonitor, sem_go]
  simp (maxSteps := 10000000) (disch := omega) only [F_laws_toMonitor, params, EG, EL, ↓reduceIte, Nat.reduceEqDiff, Nat.reduceAdd, Nat.reduceSub, Nat.reduceMul, Nat.reduceLeDiff, Nat.reduceLT, Int.reduceLT, Int.reduceLE, Int.reduceEq, Int.reduceToNat, reduceCtorEq, FB, FT, cx_laws_toMonitor, cl_laws_toStringS, sem_laws_toStringS, cl_laws_toEntryS, sem_laws_toEntryS]
theorem loop_laws_toMonitorS (xs : List DMonitor) (hl : xs.length + tot wtMonitor xs ≤ 1048576) :
    loopV X_laws_toMonitorS 0 [0, 3, 4] [(1, [3])] B0_laws_toMonitorS ⟨[(0, .tree 4 (xs.map cMonitor)), (3, .sl ⟨0, none, 0⟩ 4 0 xs.length), (4, .int .i64 0)], [some ⟨false, 0, 4, fillR cMonitor [.str ⟨#[]⟩, .tree 1 [], .tree 1 [], .tree 3 []] xs 0⟩]⟩ = some (.exit 0, ⟨[(3, .sl ⟨0, none, 0⟩ 4 0 xs.length)], [some ⟨false, 0, 4, xs.map cMonitor⟩]⟩) := by
  refine loop_list xs (fun _ (_ : Unit) => True) (fun i _ => ⟨[(0, .tree 4 (xs.map cMonitor)), (3, .sl ⟨0, none, 0⟩ 4 0 xs.length), (4, .int .i64 ((i : Nat) : Int))], [some ⟨false, 0, 4, fillR cMonitor [.str ⟨#[]⟩, .tree 1 [], .tree 1 [], .tree 3 []] xs i⟩]⟩) (fun _ _ => some (.exit 0, ⟨[(3, .sl ⟨0, none, 0⟩ 4 0 xs.length)], [some ⟨false, 0, 4, xs.map cMonitor⟩]⟩)) ?_ ?_ () trivial
  · intro _ _
    rw [loopV_by B0_laws_toMonitorS.eq_1]
    simp only [EG, EL, ↓reduceIte, Nat.reduceEqDiff, Nat.reduceAdd, Nat.reduceSub, Nat.reduceMul, Nat.reduceLeDiff, Nat.reduceLT, Int.reduceLT, Int.reduceLE, Int.reduceEq, Int.reduceToNat, reduceCtorEq, int_lt_irrefl, fillR_end]
  · rintro i h x rest _ rfl rfl _ ih
    have hi : (i : Int) < (xs.length : Int) := by omega
    have hx : wtMonitor xs[i] ≤ 1048576 := by have := le_tot wtMonitor (List.getElem_mem h); omega
    have hf := fillR_set (c := cMonitor) (z := [.str ⟨#[]⟩, .tree 1 [], .tree 1 [], .tree 3 []]) h rfl
    simp only [cMonitor] at hf
    rw [loopV_by B0_laws_toMonitorS.eq_1]
    simp (maxSteps := 10000000) (disch := first | assumption | omega) only [EG, EL, ↓reduceIte, Nat.reduceEqDiff, Nat.reduceAdd, Nat.reduceSub, Nat.reduceMul, Nat.reduceLeDiff, Nat.reduceLT, Int.reduceLT, Int.reduceLE, Int.reduceEq, Int.reduceToNat, reduceCtorEq, FB, FT, hi, h, wrap_succ, getRow _ _ h, fillR_get h, fillR_length (Nat.le_of_lt h), cx_laws_toMonitorS, cl_laws_toMonitor, sem_laws_toMonitor]
    simp only [splice_eq, EG, EL, ↓reduceIte, Nat.reduceEqDiff, Nat.reduceAdd, Nat.reduceSub, Nat.reduceMul, Nat.reduceLeDiff, Nat.reduceLT, Int.reduceLT, Int.reduceLE, Int.reduceEq, Int.reduceToNat, reduceCtorEq, hf]
    exact ih () trivial
theorem sem_laws_toMonitorS (xs : List DMonitor) (h : xs.length + tot wtMonitor xs ≤ 1048576) : S_laws_toMonitorS.sem [.tree 4 (xs.map cMonitor)] = some (.tree 4 (xs.map cMonitor), []) := by
  rw [sg_laws_toMonitorS, sem_go]
  simp (maxSteps := 10000000) (disch := omega) only [F_laws_toMonitorS, params, EG, EL, ↓reduceIte, Nat.reduceEqDiff, Nat.reduceAdd, Nat.reduceSub, Nat.reduceMul, Nat.reduceLeDiff, Nat.reduceLT, Int.reduceLT, Int.reduceLE, Int.reduceEq, Int.reduceToNat, reduceCtorEq, FB, FT, cx_laws_toMonitorS, cl_laws_toMonitor, sem_laws_toMonitor, fillR_zero cMonitor, loop_laws_toMonitorS xs h]
  rw [if_pos (by omega)]
theorem sem_laws_toProcess (x : DProcess) (h : wtProcess x ≤ 1048576) : S_laws_toProcess.sem [.agg (cProcess x)] = some (.agg (cProcess x), []) := by
  unfold wtProcess at h
  rw [sg_laws_toProcess, sem_go]
  simp (maxSteps := 10000000) (disch := omega) only [F_laws_toProcess, params, EG, EL, ↓reduceIte, Nat.reduceEqDiff, Nat.reduceAdd, Nat.reduceSub, Nat.reduceMul, Nat.reduceLeDiff, Nat.reduceLT, Int.reduceLT, Int.reduceLE, Int.reduceEq, Int.reduceToNat, reduceCtorEq, FB, FT, cx_laws_toProcess, cl_laws_toStringS, sem_laws_toStringS]
theorem loop_laws_toProcessS (xs : List DProcess) (hl : xs.length + tot wtProcess xs ≤ 1048576) :
    loopV X_laws_toProcessS 0 [0, 3, 4] [(1, [3])] B0_laws_toProcessS ⟨[(0, .tree 4 (xs.map cProcess)), (3, .sl ⟨0, none, 0⟩ 4 0 xs.length), (4, .int .i64 0)], [some ⟨false, 0, 4, fillR cProcess [.str ⟨#[]⟩, .tree 1 [], .tree 1 [], .int .i64 0] xs 0⟩]⟩ = some (.exit 0, ⟨[(3, .sl ⟨0, none, 0⟩ 4 0 xs.length)], [some ⟨false, 0, 4, xs.map cProcess⟩]⟩) := by
  refine loop_list xs (fun _ (_ : Unit) => True) (fun i _ => ⟨[(0, .tree 4 (xs.map cProcess)), (3, .sl ⟨0, none, 0⟩ 4 0 xs.length), (4, .int .i64 ((i : Nat) : Int))], [some ⟨false, 0, 4, fillR cProcess [.str ⟨#[]⟩, .tree 1 [], .tree 1 [], .int .i64 0] xs i⟩]⟩) (fun _ _ => some (.exit 0, ⟨[(3, .sl ⟨0, none, 0⟩ 4 0 xs.length)], [some ⟨false, 0, 4, xs.map cProcess⟩]⟩)) ?_ ?_ () trivial
  · intro _ _
    rw [loopV_by B0_laws_toProcessS.eq_1]
    simp only [EG, EL, ↓reduceIte, Nat.reduceEqDiff, Nat.reduceAdd, Nat.reduceSub, Nat.reduceMul, Nat.reduceLeDiff, Nat.reduceLT, Int.reduceLT, Int.reduceLE, Int.reduceEq, Int.reduceToNat, reduceCtorEq, int_lt_irrefl, fillR_end]
  · rintro i h x rest _ rfl rfl _ ih
    have hi : (i : Int) < (xs.length : Int) := by omega
    have hx : wtProcess xs[i] ≤ 1048576 := by have := le_tot wtProcess (List.getElem_mem h); omega
    have hf := fillR_set (c := cProcess) (z := [.str ⟨#[]⟩, .tree 1 [], .tree 1 [], .int .i64 0]) h rfl
    simp only [cProcess] at hf
    rw [loopV_by B0_laws_toProcessS.eq_1]
    simp (maxSteps := 10000000) (disch := first | assumption | omega) only [EG, EL, ↓reduceIte, Nat.reduceEqDiff, Nat.reduceAdd, Nat.reduceSub, Nat.reduceMul, Nat.reduceLeDiff, Nat.reduceLT, Int.reduceLT, Int.reduceLE, Int.reduceEq, Int.reduceToNat, reduceCtorEq, FB, FT, hi, h, wrap_succ, getRow _ _ h, fillR_get h, fillR_length (Nat.le_of_lt h), cx_laws_toProcessS, cl_laws_toProcess, sem_laws_toProcess]
    simp only [splice_eq, EG, EL, ↓reduceIte, Nat.reduceEqDiff, Nat.reduceAdd, Nat.reduceSub, Nat.reduceMul, Nat.reduceLeDiff, Nat.reduceLT, Int.reduceLT, Int.reduceLE, Int.reduceEq, Int.reduceToNat, reduceCtorEq, hf]
    exact ih () trivial
theorem sem_laws_toProcessS (xs : List DProcess) (h : xs.length + tot wtProcess xs ≤ 1048576) : S_laws_toProcessS.sem [.tree 4 (xs.map cProcess)] = some (.tree 4 (xs.map cProcess), []) := by
  rw [sg_laws_toProcessS, sem_go]
  simp (maxSteps := 10000000) (disch := omega) only [F_laws_toProcessS, params, EG, EL, ↓reduceIte, Nat.reduceEqDiff, Nat.reduceAdd, Nat.reduceSub, Nat.reduceMul, Nat.reduceLeDiff, Nat.reduceLT, Int.reduceLT, Int.reduceLE, Int.reduceEq, Int.reduceToNat, reduceCtorEq, FB, FT, cx_laws_toProcessS, cl_laws_toProcess, sem_laws_toProcess, fillR_zero cProcess, loop_laws_toProcessS xs h]
  rw [if_pos (by omega)]
theorem sem_laws_toProgram (x : DProgram) (h : wtProgram x ≤ 1048576) : S_laws_toProgram.sem [.agg (cProgram x)] = some (.agg (cProgram x), []) := by
  unfold wtProgram at h
  rw [sg_laws_toProgram, sem_go]
  simp (maxSteps := 10000000) (disch := omega) only [F_laws_toProgram, params, EG, EL, ↓reduceIte, Nat.reduceEqDiff, Nat.reduceAdd, Nat.reduceSub, Nat.reduceMul, Nat.reduceLeDiff, Nat.reduceLT, Int.reduceLT, Int.reduceLE, Int.reduceEq, Int.reduceToNat, reduceCtorEq, FB, FT, cx_laws_toProgram, cl_laws_toNodeS, sem_laws_toNodeS, cl_laws_toMonitorS, sem_laws_toMonitorS, cl_laws_toProcessS, sem_laws_toProcessS]
theorem loop_laws_eqStringS (xs : List ByteArray) (hl : xs.length + tot wtS xs ≤ 1073741824) :
    loopV X_laws_eqStringS 0 [0, 1, 5] [(1, []), (0, [4])] B0_laws_eqStringS ⟨[(0, .tree 1 (xs.map cS)), (1, .tree 1 (xs.map cS)), (5, .int .i64 0)], []⟩ = some (.exit 0, ⟨[], []⟩) := by
  refine loop_list xs (fun _ (_ : Unit) => True) (fun i _ => ⟨[(0, .tree 1 (xs.map cS)), (1, .tree 1 (xs.map cS)), (5, .int .i64 ((i : Nat) : Int))], []⟩) (fun _ _ => some (.exit 0, ⟨[], []⟩)) ?_ ?_ () trivial
  · intro _ _
    rw [loopV_by B0_laws_eqStringS.eq_1]
    simp only [EG, EL, ↓reduceIte, Nat.reduceEqDiff, Nat.reduceAdd, Nat.reduceSub, Nat.reduceMul, Nat.reduceLeDiff, Nat.reduceLT, Int.reduceLT, Int.reduceLE, Int.reduceEq, Int.reduceToNat, reduceCtorEq, int_lt_irrefl]
  · rintro i h x rest _ rfl rfl _ ih
    have hi : (i : Int) < (xs.length : Int) := by omega
    skip
    rw [loopV_by B0_laws_eqStringS.eq_1]
    simp (maxSteps := 10000000) (disch := first | assumption | omega) only [EG, EL, ↓reduceIte, Nat.reduceEqDiff, Nat.reduceAdd, Nat.reduceSub, Nat.reduceMul, Nat.reduceLeDiff, Nat.reduceLT, Int.reduceLT, Int.reduceLE, Int.reduceEq, Int.reduceToNat, reduceCtorEq, FB, FT, hi, wrap_succ, getRow _ _ h, cx_laws_eqStringS]
    exact ih () trivial
theorem sem_laws_eqStringS (xs : List ByteArray) (h : xs.length + tot wtS xs ≤ 1073741824) : S_laws_eqStringS.sem [.tree 1 (xs.map cS), .tree 1 (xs.map cS)] = some (.bool true, []) := by
  rw [sg_laws_eqStringS, sem_go]
  simp (maxSteps := 10000000) (disch := omega) only [F_laws_eqStringS, params, EG, EL, ↓reduceIte, Nat.reduceEqDiff, Nat.reduceAdd, Nat.reduceSub, Nat.reduceMul, Nat.reduceLeDiff, Nat.reduceLT, Int.reduceLT, Int.reduceLE, Int.reduceEq, Int.reduceToNat, reduceCtorEq, FB, FT, cx_laws_eqStringS, loop_laws_eqStringS xs h]
theorem loop_laws_eqIntS (xs : List Int) (hl : xs.length ≤ 1073741824) :
    loopV X_laws_eqIntS 0 [0, 1, 5] [(1, []), (0, [4])] B0_laws_eqIntS ⟨[(0, .tree 1 (xs.map cI)), (1, .tree 1 (xs.map cI)), (5, .int .i64 0)], []⟩ = some (.exit 0, ⟨[], []⟩) := by
  refine loop_list xs (fun _ (_ : Unit) => True) (fun i _ => ⟨[(0, .tree 1 (xs.map cI)), (1, .tree 1 (xs.map cI)), (5, .int .i64 ((i : Nat) : Int))], []⟩) (fun _ _ => some (.exit 0, ⟨[], []⟩)) ?_ ?_ () trivial
  · intro _ _
    rw [loopV_by B0_laws_eqIntS.eq_1]
    simp only [EG, EL, ↓reduceIte, Nat.reduceEqDiff, Nat.reduceAdd, Nat.reduceSub, Nat.reduceMul, Nat.reduceLeDiff, Nat.reduceLT, Int.reduceLT, Int.reduceLE, Int.reduceEq, Int.reduceToNat, reduceCtorEq, int_lt_irrefl]
  · rintro i h x rest _ rfl rfl _ ih
    have hi : (i : Int) < (xs.length : Int) := by omega
    skip
    rw [loopV_by B0_laws_eqIntS.eq_1]
    simp (maxSteps := 10000000) (disch := first | assumption | omega) only [EG, EL, ↓reduceIte, Nat.reduceEqDiff, Nat.reduceAdd, Nat.reduceSub, Nat.reduceMul, Nat.reduceLeDiff, Nat.reduceLT, Int.reduceLT, Int.reduceLE, Int.reduceEq, Int.reduceToNat, reduceCtorEq, FB, FT, hi, wrap_succ, getRow _ _ h, cx_laws_eqIntS]
    exact ih () trivial
theorem sem_laws_eqIntS (xs : List Int) (h : xs.length ≤ 1073741824) : S_laws_eqIntS.sem [.tree 1 (xs.map cI), .tree 1 (xs.map cI)] = some (.bool true, []) := by
  rw [sg_laws_eqIntS, sem_go]
  simp (maxSteps := 10000000) (disch := omega) only [F_laws_eqIntS, params, EG, EL, ↓reduceIte, Nat.reduceEqDiff, Nat.reduceAdd, Nat.reduceSub, Nat.reduceMul, Nat.reduceLeDiff, Nat.reduceLT, Int.reduceLT, Int.reduceLE, Int.reduceEq, Int.reduceToNat, reduceCtorEq, FB, FT, cx_laws_eqIntS, loop_laws_eqIntS xs h]
theorem sem_laws_eqPlaces (x : DPlaces) (h : wtPlaces x ≤ 1073741824) : S_laws_eqPlaces.sem [.agg (cPlaces x), .agg (cPlaces x)] = some (.bool true, []) := by
  unfold wtPlaces at h
  rw [sg_laws_eqPlaces, sem_go]
  simp (maxSteps := 10000000) (disch := omega) only [F_laws_eqPlaces, params, EG, EL, ↓reduceIte, Nat.reduceEqDiff, Nat.reduceAdd, Nat.reduceSub, Nat.reduceMul, Nat.reduceLeDiff, Nat.reduceLT, Int.reduceLT, Int.reduceLE, Int.reduceEq, Int.reduceToNat, reduceCtorEq, FB, FT, cx_laws_eqPlaces, cl_laws_eqStringS, sem_laws_eqStringS, cl_laws_eqIntS, sem_laws_eqIntS]
theorem sem_laws_eqNode (x : DNode) (h : wtNode x ≤ 1073741824) : S_laws_eqNode.sem [.agg (cNode x), .agg (cNode x)] = some (.bool true, []) := by
  unfold wtNode at h
  rw [sg_laws_eqNode, sem_go]
  simp (maxSteps := 10000000) (disch := omega) only [F_laws_eqNode, params, EG, EL, ↓reduceIte, Nat.reduceEqDiff, Nat.reduceAdd, Nat.reduceSub, Nat.reduceMul, Nat.reduceLeDiff, Nat.reduceLT, Int.reduceLT, Int.reduceLE, Int.reduceEq, Int.reduceToNat, reduceCtorEq, FB, FT, cx_laws_eqNode, cl_laws_eqIntS, sem_laws_eqIntS]
theorem loop_laws_eqNodeS (xs : List DNode) (hl : xs.length + tot wtNode xs ≤ 1073741824) :
    loopV X_laws_eqNodeS 0 [0, 1, 5] [(1, []), (0, [4])] B0_laws_eqNodeS ⟨[(0, .tree 6 (xs.map cNode)), (1, .tree 6 (xs.map cNode)), (5, .int .i64 0)], []⟩ = some (.exit 0, ⟨[], []⟩) := by
  refine loop_list xs (fun _ (_ : Unit) => True) (fun i _ => ⟨[(0, .tree 6 (xs.map cNode)), (1, .tree 6 (xs.map cNode)), (5, .int .i64 ((i : Nat) : Int))], []⟩) (fun _ _ => some (.exit 0, ⟨[], []⟩)) ?_ ?_ () trivial
  · intro _ _
    rw [loopV_by B0_laws_eqNodeS.eq_1]
    simp only [EG, EL, ↓reduceIte, Nat.reduceEqDiff, Nat.reduceAdd, Nat.reduceSub, Nat.reduceMul, Nat.reduceLeDiff, Nat.reduceLT, Int.reduceLT, Int.reduceLE, Int.reduceEq, Int.reduceToNat, reduceCtorEq, int_lt_irrefl]
  · rintro i h x rest _ rfl rfl _ ih
    have hi : (i : Int) < (xs.length : Int) := by omega
    have hx : wtNode xs[i] ≤ 1073741824 := by have := le_tot wtNode (List.getElem_mem h); omega
    rw [loopV_by B0_laws_eqNodeS.eq_1]
    simp (maxSteps := 10000000) (disch := first | assumption | omega) only [EG, EL, ↓reduceIte, Nat.reduceEqDiff, Nat.reduceAdd, Nat.reduceSub, Nat.reduceMul, Nat.reduceLeDiff, Nat.reduceLT, Int.reduceLT, Int.reduceLE, Int.reduceEq, Int.reduceToNat, reduceCtorEq, FB, FT, hi, wrap_succ, getRow _ _ h, cx_laws_eqNodeS, cl_laws_eqNode, sem_laws_eqNode]
    exact ih () trivial
theorem sem_laws_eqNodeS (xs : List DNode) (h : xs.length + tot wtNode xs ≤ 1073741824) : S_laws_eqNodeS.sem [.tree 6 (xs.map cNode), .tree 6 (xs.map cNode)] = some (.bool true, []) := by
  rw [sg_laws_eqNodeS, sem_go]
  simp (maxSteps := 10000000) (disch := omega) only [F_laws_eqNodeS, params, EG, EL, ↓reduceIte, Nat.reduceEqDiff, Nat.reduceAdd, Nat.reduceSub, Nat.reduceMul, Nat.reduceLeDiff, Nat.reduceLT, Int.reduceLT, Int.reduceLE, Int.reduceEq, Int.reduceToNat, reduceCtorEq, FB, FT, cx_laws_eqNodeS, cl_laws_eqNode, sem_laws_eqNode, loop_laws_eqNodeS xs h]
theorem sem_laws_eqEntry (x : DEntry) (h : wtEntry x ≤ 1073741824) : S_laws_eqEntry.sem [.agg (cEntry x), .agg (cEntry x)] = some (.bool true, []) := by
  unfold wtEntry at h
  rw [sg_laws_eqEntry, sem_go]
  simp (maxSteps := 10000000) (disch := omega) only [F_laws_eqEntry, params, EG, EL, ↓reduceIte, Nat.reduceEqDiff, Nat.reduceAdd, Nat.reduceSub, Nat.reduceMul, Nat.reduceLeDiff, Nat.reduceLT, Int.reduceLT, Int.reduceLE, Int.reduceEq, Int.reduceToNat, reduceCtorEq, FB, FT, cx_laws_eqEntry]
theorem loop_laws_eqEntryS (xs : List DEntry) (hl : xs.length + tot wtEntry xs ≤ 1073741824) :
    loopV X_laws_eqEntryS 0 [0, 1, 5] [(1, []), (0, [4])] B0_laws_eqEntryS ⟨[(0, .tree 3 (xs.map cEntry)), (1, .tree 3 (xs.map cEntry)), (5, .int .i64 0)], []⟩ = some (.exit 0, ⟨[], []⟩) := by
  refine loop_list xs (fun _ (_ : Unit) => True) (fun i _ => ⟨[(0, .tree 3 (xs.map cEntry)), (1, .tree 3 (xs.map cEntry)), (5, .int .i64 ((i : Nat) : Int))], []⟩) (fun _ _ => some (.exit 0, ⟨[], []⟩)) ?_ ?_ () trivial
  · intro _ _
    rw [loopV_by B0_laws_eqEntryS.eq_1]
    simp only [EG, EL, ↓reduceIte, Nat.reduceEqDiff, Nat.reduceAdd, Nat.reduceSub, Nat.reduceMul, Nat.reduceLeDiff, Nat.reduceLT, Int.reduceLT, Int.reduceLE, Int.reduceEq, Int.reduceToNat, reduceCtorEq, int_lt_irrefl]
  · rintro i h x rest _ rfl rfl _ ih
    have hi : (i : Int) < (xs.length : Int) := by omega
    have hx : wtEntry xs[i] ≤ 1073741824 := by have := le_tot wtEntry (List.getElem_mem h); omega
    rw [loopV_by B0_laws_eqEntryS.eq_1]
    simp (maxSteps := 10000000) (disch := first | assumption | omega) only [EG, EL, ↓reduceIte, Nat.reduceEqDiff, Nat.reduceAdd, Nat.reduceSub, Nat.reduceMul, Nat.reduceLeDiff, Nat.reduceLT, Int.reduceLT, Int.reduceLE, Int.reduceEq, Int.reduceToNat, reduceCtorEq, FB, FT, hi, wrap_succ, getRow _ _ h, cx_laws_eqEntryS, cl_laws_eqEntry, sem_laws_eqEntry]
    exact ih () trivial
theorem sem_laws_eqEntryS (xs : List DEntry) (h : xs.length + tot wtEntry xs ≤ 1073741824) : S_laws_eqEntryS.sem [.tree 3 (xs.map cEntry), .tree 3 (xs.map cEntry)] = some (.bool true, []) := by
  rw [sg_laws_eqEntryS, sem_go]
  simp (maxSteps := 10000000) (disch := omega) only [F_laws_eqEntryS, params, EG, EL, ↓reduceIte, Nat.reduceEqDiff, Nat.reduceAdd, Nat.reduceSub, Nat.reduceMul, Nat.reduceLeDiff, Nat.reduceLT, Int.reduceLT, Int.reduceLE, Int.reduceEq, Int.reduceToNat, reduceCtorEq, FB, FT, cx_laws_eqEntryS, cl_laws_eqEntry, sem_laws_eqEntry, loop_laws_eqEntryS xs h]
theorem sem_laws_eqMonitor (x : DMonitor) (h : wtMonitor x ≤ 1073741824) : S_laws_eqMonitor.sem [.agg (cMonitor x), .agg (cMonitor x)] = some (.bool true, []) := by
  unfold wtMonitor at h
  rw [sg_laws_eqMonitor, sem_go]
  simp (maxSteps := 10000000) (disch := omega) only [F_laws_eqMonitor, params, EG, EL, ↓reduceIte, Nat.reduceEqDiff, Nat.reduceAdd, Nat.reduceSub, Nat.reduceMul, Nat.reduceLeDiff, Nat.reduceLT, Int.reduceLT, Int.reduceLE, Int.reduceEq, Int.reduceToNat, reduceCtorEq, FB, FT, cx_laws_eqMonitor, cl_laws_eqStringS, sem_laws_eqStringS, cl_laws_eqEntryS, sem_laws_eqEntryS]
theorem loop_laws_eqMonitorS (xs : List DMonitor) (hl : xs.length + tot wtMonitor xs ≤ 1073741824) :
    loopV X_laws_eqMonitorS 0 [0, 1, 5] [(1, []), (0, [4])] B0_laws_eqMonitorS ⟨[(0, .tree 4 (xs.map cMonitor)), (1, .tree 4 (xs.map cMonitor)), (5, .int .i64 0)], []⟩ = some (.exit 0, ⟨[], []⟩) := by
  refine loop_list xs (fun _ (_ : Unit) => True) (fun i _ => ⟨[(0, .tree 4 (xs.map cMonitor)), (1, .tree 4 (xs.map cMonitor)), (5, .int .i64 ((i : Nat) : Int))], []⟩) (fun _ _ => some (.exit 0, ⟨[], []⟩)) ?_ ?_ () trivial
  · intro _ _
    rw [loopV_by B0_laws_eqMonitorS.eq_1]
    simp only [EG, EL, ↓reduceIte, Nat.reduceEqDiff, Nat.reduceAdd, Nat.reduceSub, Nat.reduceMul, Nat.reduceLeDiff, Nat.reduceLT, Int.reduceLT, Int.reduceLE, Int.reduceEq, Int.reduceToNat, reduceCtorEq, int_lt_irrefl]
  · rintro i h x rest _ rfl rfl _ ih
    have hi : (i : Int) < (xs.length : Int) := by omega
    have hx : wtMonitor xs[i] ≤ 1073741824 := by have := le_tot wtMonitor (List.getElem_mem h); omega
    rw [loopV_by B0_laws_eqMonitorS.eq_1]
    simp (maxSteps := 10000000) (disch := first | assumption | omega) only [EG, EL, ↓reduceIte, Nat.reduceEqDiff, Nat.reduceAdd, Nat.reduceSub, Nat.reduceMul, Nat.reduceLeDiff, Nat.reduceLT, Int.reduceLT, Int.reduceLE, Int.reduceEq, Int.reduceToNat, reduceCtorEq, FB, FT, hi, wrap_succ, getRow _ _ h, cx_laws_eqMonitorS, cl_laws_eqMonitor, sem_laws_eqMonitor]
    exact ih () trivial
theorem sem_laws_eqMonitorS (xs : List DMonitor) (h : xs.length + tot wtMonitor xs ≤ 1073741824) : S_laws_eqMonitorS.sem [.tree 4 (xs.map cMonitor), .tree 4 (xs.map cMonitor)] = some (.bool true, []) := by
  rw [sg_laws_eqMonitorS, sem_go]
  simp (maxSteps := 10000000) (disch := omega) only [F_laws_eqMonitorS, params, EG, EL, ↓reduceIte, Nat.reduceEqDiff, Nat.reduceAdd, Nat.reduceSub, Nat.reduceMul, Nat.reduceLeDiff, Nat.reduceLT, Int.reduceLT, Int.reduceLE, Int.reduceEq, Int.reduceToNat, reduceCtorEq, FB, FT, cx_laws_eqMonitorS, cl_laws_eqMonitor, sem_laws_eqMonitor, loop_laws_eqMonitorS xs h]
theorem sem_laws_eqProcess (x : DProcess) (h : wtProcess x ≤ 1073741824) : S_laws_eqProcess.sem [.agg (cProcess x), .agg (cProcess x)] = some (.bool true, []) := by
  unfold wtProcess at h
  rw [sg_laws_eqProcess, sem_go]
  simp (maxSteps := 10000000) (disch := omega) only [F_laws_eqProcess, params, EG, EL, ↓reduceIte, Nat.reduceEqDiff, Nat.reduceAdd, Nat.reduceSub, Nat.reduceMul, Nat.reduceLeDiff, Nat.reduceLT, Int.reduceLT, Int.reduceLE, Int.reduceEq, Int.reduceToNat, reduceCtorEq, FB, FT, cx_laws_eqProcess, cl_laws_eqStringS, sem_laws_eqStringS]
theorem loop_laws_eqProcessS (xs : List DProcess) (hl : xs.length + tot wtProcess xs ≤ 1073741824) :
    loopV X_laws_eqProcessS 0 [0, 1, 5] [(1, []), (0, [4])] B0_laws_eqProcessS ⟨[(0, .tree 4 (xs.map cProcess)), (1, .tree 4 (xs.map cProcess)), (5, .int .i64 0)], []⟩ = some (.exit 0, ⟨[], []⟩) := by
  refine loop_list xs (fun _ (_ : Unit) => True) (fun i _ => ⟨[(0, .tree 4 (xs.map cProcess)), (1, .tree 4 (xs.map cProcess)), (5, .int .i64 ((i : Nat) : Int))], []⟩) (fun _ _ => some (.exit 0, ⟨[], []⟩)) ?_ ?_ () trivial
  · intro _ _
    rw [loopV_by B0_laws_eqProcessS.eq_1]
    simp only [EG, EL, ↓reduceIte, Nat.reduceEqDiff, Nat.reduceAdd, Nat.reduceSub, Nat.reduceMul, Nat.reduceLeDiff, Nat.reduceLT, Int.reduceLT, Int.reduceLE, Int.reduceEq, Int.reduceToNat, reduceCtorEq, int_lt_irrefl]
  · rintro i h x rest _ rfl rfl _ ih
    have hi : (i : Int) < (xs.length : Int) := by omega
    have hx : wtProcess xs[i] ≤ 1073741824 := by have := le_tot wtProcess (List.getElem_mem h); omega
    rw [loopV_by B0_laws_eqProcessS.eq_1]
    simp (maxSteps := 10000000) (disch := first | assumption | omega) only [EG, EL, ↓reduceIte, Nat.reduceEqDiff, Nat.reduceAdd, Nat.reduceSub, Nat.reduceMul, Nat.reduceLeDiff, Nat.reduceLT, Int.reduceLT, Int.reduceLE, Int.reduceEq, Int.reduceToNat, reduceCtorEq, FB, FT, hi, wrap_succ, getRow _ _ h, cx_laws_eqProcessS, cl_laws_eqProcess, sem_laws_eqProcess]
    exact ih () trivial
theorem sem_laws_eqProcessS (xs : List DProcess) (h : xs.length + tot wtProcess xs ≤ 1073741824) : S_laws_eqProcessS.sem [.tree 4 (xs.map cProcess), .tree 4 (xs.map cProcess)] = some (.bool true, []) := by
  rw [sg_laws_eqProcessS, sem_go]
  simp (maxSteps := 10000000) (disch := omega) only [F_laws_eqProcessS, params, EG, EL, ↓reduceIte, Nat.reduceEqDiff, Nat.reduceAdd, Nat.reduceSub, Nat.reduceMul, Nat.reduceLeDiff, Nat.reduceLT, Int.reduceLT, Int.reduceLE, Int.reduceEq, Int.reduceToNat, reduceCtorEq, FB, FT, cx_laws_eqProcessS, cl_laws_eqProcess, sem_laws_eqProcess, loop_laws_eqProcessS xs h]
theorem sem_laws_eqProgram (x : DProgram) (h : wtProgram x ≤ 1073741824) : S_laws_eqProgram.sem [.agg (cProgram x), .agg (cProgram x)] = some (.bool true, []) := by
  unfold wtProgram at h
  rw [sg_laws_eqProgram, sem_go]
  simp (maxSteps := 10000000) (disch := omega) only [F_laws_eqProgram, params, EG, EL, ↓reduceIte, Nat.reduceEqDiff, Nat.reduceAdd, Nat.reduceSub, Nat.reduceMul, Nat.reduceLeDiff, Nat.reduceLT, Int.reduceLT, Int.reduceLE, Int.reduceEq, Int.reduceToNat, reduceCtorEq, FB, FT, cx_laws_eqProgram, cl_laws_eqNodeS, sem_laws_eqNodeS, cl_laws_eqMonitorS, sem_laws_eqMonitorS, cl_laws_eqProcessS, sem_laws_eqProcessS]
theorem sem_laws_markText (k : Int) (h1 : 1 ≤ k) (h2 : k ≤ 4611686018427387000) : S_laws_markText.sem [.int .i64 k] = some (.str (mT k), []) := by
  have loop : ∀ (m : Nat) (s : ByteArray), s.size + m ≤ 4611686018427387000 → loopV X_laws_markText 0 [0, 3] [(1, [3])] B0_laws_markText ⟨[(0, .int .i64 (m : Int)), (3, .str s)], []⟩ = some (.exit 0, ⟨[(3, .str (dig m s))], []⟩) := by
    intro m
    induction m using Nat.strongRecOn with
    | _ m ih =>
      intro s hs
      rw [loopV_by B0_laws_markText.eq_1]
      by_cases hm : m = 0
      · subst hm
        simp only [EG, EL, ↓reduceIte, Nat.reduceEqDiff, Nat.reduceAdd, Nat.reduceSub, Nat.reduceMul, Nat.reduceLeDiff, Nat.reduceLT, Int.reduceLT, Int.reduceLE, Int.reduceEq, Int.reduceToNat, reduceCtorEq, FB, FT, int_lt_irrefl, Int.natCast_zero, dig_zero]
      · have hp : (0 : Int) < (m : Int) := by omega
        have hq : Int.tdiv (m : Int) 10 = ((m / 10 : Nat) : Int) := by
          rw [Int.tdiv_eq_ediv_of_nonneg (by omega)]; omega
        have hz := ih (m / 10) (by omega) (⟨#[UInt8.ofNat (IntKind.wrap .u8 (IntKind.wrap .i64 (48 + Int.tmod m 10))).toNat]⟩ ++ s) (by rw [ByteArray.size_append, show (⟨#[UInt8.ofNat (IntKind.wrap .u8 (IntKind.wrap .i64 (48 + Int.tmod m 10))).toNat]⟩ : ByteArray).size = 1 from rfl]; omega)
        have hsz : ∀ b : UInt8, (⟨#[b]⟩ : ByteArray).size + s.size ≤ 4611686018427387904 := fun b => by rw [show (⟨#[b]⟩ : ByteArray).size = 1 from rfl]; omega
        have hsz' : ∀ b : UInt8, (⟨[b].toArray⟩ : ByteArray).size + s.size ≤ 4611686018427387904 := hsz
        have hw : IntKind.wrap .i64 ((m / 10 : Nat) : Int) = ((m / 10 : Nat) : Int) := wrapI (by omega) (by omega)
        simp (maxSteps := 10000000) (disch := first | assumption | omega) only [EG, EL, ↓reduceIte, Nat.reduceEqDiff, Nat.reduceAdd, Nat.reduceSub, Nat.reduceMul, Nat.reduceLeDiff, Nat.reduceLT, Int.reduceLT, Int.reduceLE, Int.reduceEq, Int.reduceToNat, reduceCtorEq, FB, FT, hp, hq, hw, hsz', hsz, cx_laws_markText]
        rw [dig_pos hm]
        exact hz
  obtain ⟨m, rfl⟩ : ∃ m : Nat, k = (m : Int) := ⟨k.toNat, by omega⟩
  have hp : ¬ (m : Int) ≤ 0 := by omega
  have hz := dig_size m ⟨#[]⟩
  have hsz : (⟨#[109]⟩ : ByteArray).size + (dig m ⟨#[]⟩).size ≤ 4611686018427387904 := by
    rw [show (⟨#[109]⟩ : ByteArray).size = 1 from rfl]
    rw [show (⟨#[]⟩ : ByteArray).size = 0 from rfl] at hz
    omega
  rw [sg_laws_markText, sem_go]
  simp (maxSteps := 10000000) (disch := first | assumption | omega) only [F_laws_markText, params, EG, EL, ↓reduceIte, Nat.reduceEqDiff, Nat.reduceAdd, Nat.reduceSub, Nat.reduceMul, Nat.reduceLeDiff, Nat.reduceLT, Int.reduceLT, Int.reduceLE, Int.reduceEq, Int.reduceToNat, reduceCtorEq, FB, FT, cx_laws_markText, hp, loop m ⟨#[]⟩ (by rw [show (⟨#[]⟩ : ByteArray).size = 0 from rfl]; omega), hsz, mT]
theorem sem_laws_markIntS (xs : List Int) (k : Int) (h1 : 1 ≤ k) (h2 : k + (tot ct1 xs : Nat) ≤ 4611686018427387000) : S_laws_markIntS.sem [.tree 1 (xs.map cI), .int .i64 k] = some (.int .i64 (k + (tot ct1 xs : Nat)), (mkL mkI ct1 xs k).map cI) := by
  have hlen : xs.length ≤ tot ct1 xs := len_ct1
  have loop : loopV X_laws_markIntS 1 [0, 1, 5] [(1, [1])] B0_laws_markIntS ⟨[(0, .sl ⟨0, none, 0⟩ 1 0 xs.length), (1, .int .i64 k), (5, .int .i64 0)], [some ⟨false, 0, 1, xs.map cI⟩]⟩ = some (.exit 0, ⟨[(1, .int .i64 (k + (tot ct1 xs : Nat)))], [some ⟨false, 0, 1, (mkL mkI ct1 xs k).map cI⟩]⟩) := by
    refine loop_list xs (fun i (a : List Int × Int) => a.1.length = i ∧ 1 ≤ a.2 ∧ a.2 + (tot ct1 (xs.drop i) : Nat) ≤ 4611686018427387000) (fun i a => ⟨[(0, .sl ⟨0, none, 0⟩ 1 0 xs.length), (1, .int .i64 a.2), (5, .int .i64 ((i : Nat) : Int))], [some ⟨false, 0, 1, (a.1 ++ xs.drop i).map cI⟩]⟩) (fun rest a => some (.exit 0, ⟨[(1, .int .i64 (a.2 + (tot ct1 rest : Nat)))], [some ⟨false, 0, 1, (a.1 ++ mkL mkI ct1 rest a.2).map cI⟩]⟩)) ?_ ?_ ([], k) ⟨rfl, h1, h2⟩
    · rintro a ⟨hy, a1, a2⟩
      rw [loopV_by B0_laws_markIntS.eq_1]
      simp only [EG, EL, ↓reduceIte, Nat.reduceEqDiff, Nat.reduceAdd, Nat.reduceSub, Nat.reduceMul, Nat.reduceLeDiff, Nat.reduceLT, Int.reduceLT, Int.reduceLE, Int.reduceEq, Int.reduceToNat, reduceCtorEq, int_lt_irrefl, List.drop_length, tot, mkL, Int.natCast_zero, Int.add_zero]
    · rintro i h x rest a rfl rfl ⟨hy, a1, a2⟩ ih
      have hi : (i : Int) < (xs.length : Int) := by omega
      have hd : xs.drop i = xs[i] :: xs.drop (i + 1) := List.drop_eq_getElem_cons h
      have ht : tot ct1 (xs.drop i) = ct1 xs[i] + tot ct1 (xs.drop (i + 1)) := by rw [hd]; rfl
      have hc : ct1 xs[i] = 1 := rfl
      have hlm : i < ((a.1 ++ xs.drop i).map cI).length := by rw [mid_len hy h]; exact h
      have hll : i < a.1.length + (xs.drop i).length := by rw [List.length_drop]; omega
      have hg := mid_get (c := cI) hy h
      have hf := mid_set (c := cI) hy h (x := a.2) rfl
      have hk : (a.2 + 1) = a.2 + ((ct1 xs[i] : Nat) : Int) := by rw [hc]; omega
      simp only [cI] at hf
      rw [loopV_by B0_laws_markIntS.eq_1]
      simp (maxSteps := 10000000) (disch := first | assumption | omega) only [EG, EL, ↓reduceIte, Nat.reduceEqDiff, Nat.reduceAdd, Nat.reduceSub, Nat.reduceMul, Nat.reduceLeDiff, Nat.reduceLT, Int.reduceLT, Int.reduceLE, Int.reduceEq, Int.reduceToNat, reduceCtorEq, FB, FT, hi, h, hg, hlm, hll, cx_laws_markIntS, wrapI, splice_eq, set_getD, set_set, hf]
      rw [show ((i : Nat) : Int) + 1 = ((i + 1 : Nat) : Int) by omega]
      have hih := ih (a.1 ++ [a.2], (a.2 + 1)) ⟨by simp [hy], by show 1 ≤ (a.2 + 1); omega, by show (a.2 + 1) + _ ≤ _; omega⟩
      simp only [eq_self] at hih
      rw [hih]
      simp only [hk, tot, mkL, List.append_assoc, List.singleton_append]
      rw [show a.2 + ((ct1 xs[i] : Nat) : Int) + ((tot ct1 (xs.drop (i + 1)) : Nat) : Int) = a.2 + ((ct1 xs[i] + tot ct1 (xs.drop (i + 1)) : Nat) : Int) by omega]
      try rfl
  rw [sg_laws_markIntS, sem_goM]
  simp (maxSteps := 10000000) (disch := first | assumption | omega) only [F_laws_markIntS, params, EG, EL, ↓reduceIte, Nat.reduceEqDiff, Nat.reduceAdd, Nat.reduceSub, Nat.reduceMul, Nat.reduceLeDiff, Nat.reduceLT, Int.reduceLT, Int.reduceLE, Int.reduceEq, Int.reduceToNat, reduceCtorEq, FB, FT, cx_laws_markIntS, loop]
theorem sem_laws_markNodeS (xs : List DNode) (k : Int) (h1 : 1 ≤ k) (h2 : k + (tot ctNode xs : Nat) ≤ 4611686018427387000) : S_laws_markNodeS.sem [.tree 6 (xs.map cNode), .int .i64 k] = some (.int .i64 (k + (tot ctNode xs : Nat)), (mkL mkNode ctNode xs k).map cNode) := by
  have hlen : xs.length ≤ tot ctNode xs := len_tot fun x => by unfold ctNode; omega
  have loop : loopV X_laws_markNodeS 1 [0, 1, 5] [(1, [1])] B0_laws_markNodeS ⟨[(0, .sl ⟨0, none, 0⟩ 6 0 xs.length), (1, .int .i64 k), (5, .int .i64 0)], [some ⟨false, 0, 6, xs.map cNode⟩]⟩ = some (.exit 0, ⟨[(1, .int .i64 (k + (tot ctNode xs : Nat)))], [some ⟨false, 0, 6, (mkL mkNode ctNode xs k).map cNode⟩]⟩) := by
    refine loop_list xs (fun i (a : List DNode × Int) => a.1.length = i ∧ 1 ≤ a.2 ∧ a.2 + (tot ctNode (xs.drop i) : Nat) ≤ 4611686018427387000) (fun i a => ⟨[(0, .sl ⟨0, none, 0⟩ 6 0 xs.length), (1, .int .i64 a.2), (5, .int .i64 ((i : Nat) : Int))], [some ⟨false, 0, 6, (a.1 ++ xs.drop i).map cNode⟩]⟩) (fun rest a => some (.exit 0, ⟨[(1, .int .i64 (a.2 + (tot ctNode rest : Nat)))], [some ⟨false, 0, 6, (a.1 ++ mkL mkNode ctNode rest a.2).map cNode⟩]⟩)) ?_ ?_ ([], k) ⟨rfl, h1, h2⟩
    · rintro a ⟨hy, a1, a2⟩
      rw [loopV_by B0_laws_markNodeS.eq_1]
      simp only [EG, EL, ↓reduceIte, Nat.reduceEqDiff, Nat.reduceAdd, Nat.reduceSub, Nat.reduceMul, Nat.reduceLeDiff, Nat.reduceLT, Int.reduceLT, Int.reduceLE, Int.reduceEq, Int.reduceToNat, reduceCtorEq, int_lt_irrefl, List.drop_length, tot, mkL, Int.natCast_zero, Int.add_zero]
    · rintro i h x rest a rfl rfl ⟨hy, a1, a2⟩ ih
      have hi : (i : Int) < (xs.length : Int) := by omega
      have hd : xs.drop i = xs[i] :: xs.drop (i + 1) := List.drop_eq_getElem_cons h
      have ht : tot ctNode (xs.drop i) = ctNode xs[i] + tot ctNode (xs.drop (i + 1)) := by rw [hd]; rfl
      have hc : ctNode xs[i] = 1 + 1 + 1 + 1 + 1 + tot ct1 xs[i].Kids := rfl
      have hlm : i < ((a.1 ++ xs.drop i).map cNode).length := by rw [mid_len hy h]; exact h
      have hll : i < a.1.length + (xs.drop i).length := by rw [List.length_drop]; omega
      have hg := mid_get (c := cNode) hy h
      have hf := mid_set (c := cNode) hy h (x := (mkNode xs[i] a.2)) rfl
      have hk : ((((((a.2 + 1) + 1) + 1) + 1) + 1) + (tot ct1 xs[i].Kids : Nat)) = a.2 + ((ctNode xs[i] : Nat) : Int) := by rw [hc]; omega
      simp only [cNode, mkNode] at hf
      rw [loopV_by B0_laws_markNodeS.eq_1]
      simp (maxSteps := 10000000) (disch := first | assumption | omega) only [EG, EL, ↓reduceIte, Nat.reduceEqDiff, Nat.reduceAdd, Nat.reduceSub, Nat.reduceMul, Nat.reduceLeDiff, Nat.reduceLT, Int.reduceLT, Int.reduceLE, Int.reduceEq, Int.reduceToNat, reduceCtorEq, FB, FT, hi, h, hg, hlm, hll, cx_laws_markNodeS, cl_laws_markText, sem_laws_markText, cl_laws_markIntS, sem_laws_markIntS, wrapI, splice_eq, set_getD, set_set, hf]
      rw [show ((i : Nat) : Int) + 1 = ((i + 1 : Nat) : Int) by omega]
      have hih := ih (a.1 ++ [(mkNode xs[i] a.2)], ((((((a.2 + 1) + 1) + 1) + 1) + 1) + (tot ct1 xs[i].Kids : Nat))) ⟨by simp [hy], by show 1 ≤ ((((((a.2 + 1) + 1) + 1) + 1) + 1) + (tot ct1 xs[i].Kids : Nat)); omega, by show ((((((a.2 + 1) + 1) + 1) + 1) + 1) + (tot ct1 xs[i].Kids : Nat)) + _ ≤ _; omega⟩
      simp only [mkNode] at hih
      rw [hih]
      simp only [hk, tot, mkL, List.append_assoc, List.singleton_append]
      rw [show a.2 + ((ctNode xs[i] : Nat) : Int) + ((tot ctNode (xs.drop (i + 1)) : Nat) : Int) = a.2 + ((ctNode xs[i] + tot ctNode (xs.drop (i + 1)) : Nat) : Int) by omega]
      try rfl
  rw [sg_laws_markNodeS, sem_goM]
  simp (maxSteps := 10000000) (disch := first | assumption | omega) only [F_laws_markNodeS, params, EG, EL, ↓reduceIte, Nat.reduceEqDiff, Nat.reduceAdd, Nat.reduceSub, Nat.reduceMul, Nat.reduceLeDiff, Nat.reduceLT, Int.reduceLT, Int.reduceLE, Int.reduceEq, Int.reduceToNat, reduceCtorEq, FB, FT, cx_laws_markNodeS, cl_laws_markText, sem_laws_markText, cl_laws_markIntS, sem_laws_markIntS, loop]
theorem sem_laws_markStringS (xs : List ByteArray) (k : Int) (h1 : 1 ≤ k) (h2 : k + (tot ct1 xs : Nat) ≤ 4611686018427387000) : S_laws_markStringS.sem [.tree 1 (xs.map cS), .int .i64 k] = some (.int .i64 (k + (tot ct1 xs : Nat)), (mkL mkS ct1 xs k).map cS) := by
  have hlen : xs.length ≤ tot ct1 xs := len_ct1
  have loop : loopV X_laws_markStringS 1 [0, 1, 5] [(1, [1])] B0_laws_markStringS ⟨[(0, .sl ⟨0, none, 0⟩ 1 0 xs.length), (1, .int .i64 k), (5, .int .i64 0)], [some ⟨false, 0, 1, xs.map cS⟩]⟩ = some (.exit 0, ⟨[(1, .int .i64 (k + (tot ct1 xs : Nat)))], [some ⟨false, 0, 1, (mkL mkS ct1 xs k).map cS⟩]⟩) := by
    refine loop_list xs (fun i (a : List ByteArray × Int) => a.1.length = i ∧ 1 ≤ a.2 ∧ a.2 + (tot ct1 (xs.drop i) : Nat) ≤ 4611686018427387000) (fun i a => ⟨[(0, .sl ⟨0, none, 0⟩ 1 0 xs.length), (1, .int .i64 a.2), (5, .int .i64 ((i : Nat) : Int))], [some ⟨false, 0, 1, (a.1 ++ xs.drop i).map cS⟩]⟩) (fun rest a => some (.exit 0, ⟨[(1, .int .i64 (a.2 + (tot ct1 rest : Nat)))], [some ⟨false, 0, 1, (a.1 ++ mkL mkS ct1 rest a.2).map cS⟩]⟩)) ?_ ?_ ([], k) ⟨rfl, h1, h2⟩
    · rintro a ⟨hy, a1, a2⟩
      rw [loopV_by B0_laws_markStringS.eq_1]
      simp only [EG, EL, ↓reduceIte, Nat.reduceEqDiff, Nat.reduceAdd, Nat.reduceSub, Nat.reduceMul, Nat.reduceLeDiff, Nat.reduceLT, Int.reduceLT, Int.reduceLE, Int.reduceEq, Int.reduceToNat, reduceCtorEq, int_lt_irrefl, List.drop_length, tot, mkL, Int.natCast_zero, Int.add_zero]
    · rintro i h x rest a rfl rfl ⟨hy, a1, a2⟩ ih
      have hi : (i : Int) < (xs.length : Int) := by omega
      have hd : xs.drop i = xs[i] :: xs.drop (i + 1) := List.drop_eq_getElem_cons h
      have ht : tot ct1 (xs.drop i) = ct1 xs[i] + tot ct1 (xs.drop (i + 1)) := by rw [hd]; rfl
      have hc : ct1 xs[i] = 1 := rfl
      have hlm : i < ((a.1 ++ xs.drop i).map cS).length := by rw [mid_len hy h]; exact h
      have hll : i < a.1.length + (xs.drop i).length := by rw [List.length_drop]; omega
      have hg := mid_get (c := cS) hy h
      have hf := mid_set (c := cS) hy h (x := (mT a.2)) rfl
      have hk : (a.2 + 1) = a.2 + ((ct1 xs[i] : Nat) : Int) := by rw [hc]; omega
      simp only [cS] at hf
      rw [loopV_by B0_laws_markStringS.eq_1]
      simp (maxSteps := 10000000) (disch := first | assumption | omega) only [EG, EL, ↓reduceIte, Nat.reduceEqDiff, Nat.reduceAdd, Nat.reduceSub, Nat.reduceMul, Nat.reduceLeDiff, Nat.reduceLT, Int.reduceLT, Int.reduceLE, Int.reduceEq, Int.reduceToNat, reduceCtorEq, FB, FT, hi, h, hg, hlm, hll, cx_laws_markStringS, cl_laws_markText, sem_laws_markText, wrapI, splice_eq, set_getD, set_set, hf]
      rw [show ((i : Nat) : Int) + 1 = ((i + 1 : Nat) : Int) by omega]
      have hih := ih (a.1 ++ [(mT a.2)], (a.2 + 1)) ⟨by simp [hy], by show 1 ≤ (a.2 + 1); omega, by show (a.2 + 1) + _ ≤ _; omega⟩
      simp only [eq_self] at hih
      rw [hih]
      simp only [hk, tot, mkL, List.append_assoc, List.singleton_append]
      rw [show a.2 + ((ct1 xs[i] : Nat) : Int) + ((tot ct1 (xs.drop (i + 1)) : Nat) : Int) = a.2 + ((ct1 xs[i] + tot ct1 (xs.drop (i + 1)) : Nat) : Int) by omega]
      try rfl
  rw [sg_laws_markStringS, sem_goM]
  simp (maxSteps := 10000000) (disch := first | assumption | omega) only [F_laws_markStringS, params, EG, EL, ↓reduceIte, Nat.reduceEqDiff, Nat.reduceAdd, Nat.reduceSub, Nat.reduceMul, Nat.reduceLeDiff, Nat.reduceLT, Int.reduceLT, Int.reduceLE, Int.reduceEq, Int.reduceToNat, reduceCtorEq, FB, FT, cx_laws_markStringS, cl_laws_markText, sem_laws_markText, loop]
theorem sem_laws_markEntryS (xs : List DEntry) (k : Int) (h1 : 1 ≤ k) (h2 : k + (tot ctEntry xs : Nat) ≤ 4611686018427387000) : S_laws_markEntryS.sem [.tree 3 (xs.map cEntry), .int .i64 k] = some (.int .i64 (k + (tot ctEntry xs : Nat)), (mkL mkEntry ctEntry xs k).map cEntry) := by
  have hlen : xs.length ≤ tot ctEntry xs := len_tot fun x => by unfold ctEntry; omega
  have loop : loopV X_laws_markEntryS 1 [0, 1, 5] [(1, [1])] B0_laws_markEntryS ⟨[(0, .sl ⟨0, none, 0⟩ 3 0 xs.length), (1, .int .i64 k), (5, .int .i64 0)], [some ⟨false, 0, 3, xs.map cEntry⟩]⟩ = some (.exit 0, ⟨[(1, .int .i64 (k + (tot ctEntry xs : Nat)))], [some ⟨false, 0, 3, (mkL mkEntry ctEntry xs k).map cEntry⟩]⟩) := by
    refine loop_list xs (fun i (a : List DEntry × Int) => a.1.length = i ∧ 1 ≤ a.2 ∧ a.2 + (tot ctEntry (xs.drop i) : Nat) ≤ 4611686018427387000) (fun i a => ⟨[(0, .sl ⟨0, none, 0⟩ 3 0 xs.length), (1, .int .i64 a.2), (5, .int .i64 ((i : Nat) : Int))], [some ⟨false, 0, 3, (a.1 ++ xs.drop i).map cEntry⟩]⟩) (fun rest a => some (.exit 0, ⟨[(1, .int .i64 (a.2 + (tot ctEntry rest : Nat)))], [some ⟨false, 0, 3, (a.1 ++ mkL mkEntry ctEntry rest a.2).map cEntry⟩]⟩)) ?_ ?_ ([], k) ⟨rfl, h1, h2⟩
    · rintro a ⟨hy, a1, a2⟩
      rw [loopV_by B0_laws_markEntryS.eq_1]
      simp only [EG, EL, ↓reduceIte, Nat.reduceEqDiff, Nat.reduceAdd, Nat.reduceSub, Nat.reduceMul, Nat.reduceLeDiff, Nat.reduceLT, Int.reduceLT, Int.reduceLE, Int.reduceEq, Int.reduceToNat, reduceCtorEq, int_lt_irrefl, List.drop_length, tot, mkL, Int.natCast_zero, Int.add_zero]
    · rintro i h x rest a rfl rfl ⟨hy, a1, a2⟩ ih
      have hi : (i : Int) < (xs.length : Int) := by omega
      have hd : xs.drop i = xs[i] :: xs.drop (i + 1) := List.drop_eq_getElem_cons h
      have ht : tot ctEntry (xs.drop i) = ctEntry xs[i] + tot ctEntry (xs.drop (i + 1)) := by rw [hd]; rfl
      have hc : ctEntry xs[i] = 1 + 1 + 1 := rfl
      have hlm : i < ((a.1 ++ xs.drop i).map cEntry).length := by rw [mid_len hy h]; exact h
      have hll : i < a.1.length + (xs.drop i).length := by rw [List.length_drop]; omega
      have hg := mid_get (c := cEntry) hy h
      have hf := mid_set (c := cEntry) hy h (x := (mkEntry xs[i] a.2)) rfl
      have hk : (((a.2 + 1) + 1) + 1) = a.2 + ((ctEntry xs[i] : Nat) : Int) := by rw [hc]; omega
      simp only [cEntry, mkEntry] at hf
      rw [loopV_by B0_laws_markEntryS.eq_1]
      simp (maxSteps := 10000000) (disch := first | assumption | omega) only [EG, EL, ↓reduceIte, Nat.reduceEqDiff, Nat.reduceAdd, Nat.reduceSub, Nat.reduceMul, Nat.reduceLeDiff, Nat.reduceLT, Int.reduceLT, Int.reduceLE, Int.reduceEq, Int.reduceToNat, reduceCtorEq, FB, FT, hi, h, hg, hlm, hll, cx_laws_markEntryS, cl_laws_markText, sem_laws_markText, wrapI, splice_eq, set_getD, set_set, hf]
      rw [show ((i : Nat) : Int) + 1 = ((i + 1 : Nat) : Int) by omega]
      have hih := ih (a.1 ++ [(mkEntry xs[i] a.2)], (((a.2 + 1) + 1) + 1)) ⟨by simp [hy], by show 1 ≤ (((a.2 + 1) + 1) + 1); omega, by show (((a.2 + 1) + 1) + 1) + _ ≤ _; omega⟩
      simp only [mkEntry] at hih
      rw [hih]
      simp only [hk, tot, mkL, List.append_assoc, List.singleton_append]
      rw [show a.2 + ((ctEntry xs[i] : Nat) : Int) + ((tot ctEntry (xs.drop (i + 1)) : Nat) : Int) = a.2 + ((ctEntry xs[i] + tot ctEntry (xs.drop (i + 1)) : Nat) : Int) by omega]
      try rfl
  rw [sg_laws_markEntryS, sem_goM]
  simp (maxSteps := 10000000) (disch := first | assumption | omega) only [F_laws_markEntryS, params, EG, EL, ↓reduceIte, Nat.reduceEqDiff, Nat.reduceAdd, Nat.reduceSub, Nat.reduceMul, Nat.reduceLeDiff, Nat.reduceLT, Int.reduceLT, Int.reduceLE, Int.reduceEq, Int.reduceToNat, reduceCtorEq, FB, FT, cx_laws_markEntryS, cl_laws_markText, sem_laws_markText, loop]
theorem sem_laws_markMonitorS (xs : List DMonitor) (k : Int) (h1 : 1 ≤ k) (h2 : k + (tot ctMonitor xs : Nat) ≤ 4611686018427387000) : S_laws_markMonitorS.sem [.tree 4 (xs.map cMonitor), .int .i64 k] = some (.int .i64 (k + (tot ctMonitor xs : Nat)), (mkL mkMonitor ctMonitor xs k).map cMonitor) := by
  have hlen : xs.length ≤ tot ctMonitor xs := len_tot fun x => by unfold ctMonitor; omega
  have loop : loopV X_laws_markMonitorS 1 [0, 1, 5] [(1, [1])] B0_laws_markMonitorS ⟨[(0, .sl ⟨0, none, 0⟩ 4 0 xs.length), (1, .int .i64 k), (5, .int .i64 0)], [some ⟨false, 0, 4, xs.map cMonitor⟩]⟩ = some (.exit 0, ⟨[(1, .int .i64 (k + (tot ctMonitor xs : Nat)))], [some ⟨false, 0, 4, (mkL mkMonitor ctMonitor xs k).map cMonitor⟩]⟩) := by
    refine loop_list xs (fun i (a : List DMonitor × Int) => a.1.length = i ∧ 1 ≤ a.2 ∧ a.2 + (tot ctMonitor (xs.drop i) : Nat) ≤ 4611686018427387000) (fun i a => ⟨[(0, .sl ⟨0, none, 0⟩ 4 0 xs.length), (1, .int .i64 a.2), (5, .int .i64 ((i : Nat) : Int))], [some ⟨false, 0, 4, (a.1 ++ xs.drop i).map cMonitor⟩]⟩) (fun rest a => some (.exit 0, ⟨[(1, .int .i64 (a.2 + (tot ctMonitor rest : Nat)))], [some ⟨false, 0, 4, (a.1 ++ mkL mkMonitor ctMonitor rest a.2).map cMonitor⟩]⟩)) ?_ ?_ ([], k) ⟨rfl, h1, h2⟩
    · rintro a ⟨hy, a1, a2⟩
      rw [loopV_by B0_laws_markMonitorS.eq_1]
      simp only [EG, EL, ↓reduceIte, Nat.reduceEqDiff, Nat.reduceAdd, Nat.reduceSub, Nat.reduceMul, Nat.reduceLeDiff, Nat.reduceLT, Int.reduceLT, Int.reduceLE, Int.reduceEq, Int.reduceToNat, reduceCtorEq, int_lt_irrefl, List.drop_length, tot, mkL, Int.natCast_zero, Int.add_zero]
    · rintro i h x rest a rfl rfl ⟨hy, a1, a2⟩ ih
      have hi : (i : Int) < (xs.length : Int) := by omega
      have hd : xs.drop i = xs[i] :: xs.drop (i + 1) := List.drop_eq_getElem_cons h
      have ht : tot ctMonitor (xs.drop i) = ctMonitor xs[i] + tot ctMonitor (xs.drop (i + 1)) := by rw [hd]; rfl
      have hc : ctMonitor xs[i] = 1 + tot ct1 xs[i].Vars + tot ct1 xs[i].Queues + tot ctEntry xs[i].Entries := rfl
      have hlm : i < ((a.1 ++ xs.drop i).map cMonitor).length := by rw [mid_len hy h]; exact h
      have hll : i < a.1.length + (xs.drop i).length := by rw [List.length_drop]; omega
      have hg := mid_get (c := cMonitor) hy h
      have hf := mid_set (c := cMonitor) hy h (x := (mkMonitor xs[i] a.2)) rfl
      have hk : ((((a.2 + 1) + (tot ct1 xs[i].Vars : Nat)) + (tot ct1 xs[i].Queues : Nat)) + (tot ctEntry xs[i].Entries : Nat)) = a.2 + ((ctMonitor xs[i] : Nat) : Int) := by rw [hc]; omega
      simp only [cMonitor, mkMonitor] at hf
      rw [loopV_by B0_laws_markMonitorS.eq_1]
      simp (maxSteps := 10000000) (disch := first | assumption | omega) only [EG, EL, ↓reduceIte, Nat.reduceEqDiff, Nat.reduceAdd, Nat.reduceSub, Nat.reduceMul, Nat.reduceLeDiff, Nat.reduceLT, Int.reduceLT, Int.reduceLE, Int.reduceEq, Int.reduceToNat, reduceCtorEq, FB, FT, hi, h, hg, hlm, hll, cx_laws_markMonitorS, cl_laws_markText, sem_laws_markText, cl_laws_markStringS, sem_laws_markStringS, cl_laws_markEntryS, sem_laws_markEntryS, wrapI, splice_eq, set_getD, set_set, hf]
      rw [show ((i : Nat) : Int) + 1 = ((i + 1 : Nat) : Int) by omega]
      have hih := ih (a.1 ++ [(mkMonitor xs[i] a.2)], ((((a.2 + 1) + (tot ct1 xs[i].Vars : Nat)) + (tot ct1 xs[i].Queues : Nat)) + (tot ctEntry xs[i].Entries : Nat))) ⟨by simp [hy], by show 1 ≤ ((((a.2 + 1) + (tot ct1 xs[i].Vars : Nat)) + (tot ct1 xs[i].Queues : Nat)) + (tot ctEntry xs[i].Entries : Nat)); omega, by show ((((a.2 + 1) + (tot ct1 xs[i].Vars : Nat)) + (tot ct1 xs[i].Queues : Nat)) + (tot ctEntry xs[i].Entries : Nat)) + _ ≤ _; omega⟩
      simp only [mkMonitor] at hih
      rw [hih]
      simp only [hk, tot, mkL, List.append_assoc, List.singleton_append]
      rw [show a.2 + ((ctMonitor xs[i] : Nat) : Int) + ((tot ctMonitor (xs.drop (i + 1)) : Nat) : Int) = a.2 + ((ctMonitor xs[i] + tot ctMonitor (xs.drop (i + 1)) : Nat) : Int) by omega]
      try rfl
  rw [sg_laws_markMonitorS, sem_goM]
  simp (maxSteps := 10000000) (disch := first | assumption | omega) only [F_laws_markMonitorS, params, EG, EL, ↓reduceIte, Nat.reduceEqDiff, Nat.reduceAdd, Nat.reduceSub, Nat.reduceMul, Nat.reduceLeDiff, Nat.reduceLT, Int.reduceLT, Int.reduceLE, Int.reduceEq, Int.reduceToNat, reduceCtorEq, FB, FT, cx_laws_markMonitorS, cl_laws_markText, sem_laws_markText, cl_laws_markStringS, sem_laws_markStringS, cl_laws_markEntryS, sem_laws_markEntryS, loop]
theorem sem_laws_markProcessS (xs : List DProcess) (k : Int) (h1 : 1 ≤ k) (h2 : k + (tot ctProcess xs : Nat) ≤ 4611686018427387000) : S_laws_markProcessS.sem [.tree 4 (xs.map cProcess), .int .i64 k] = some (.int .i64 (k + (tot ctProcess xs : Nat)), (mkL mkProcess ctProcess xs k).map cProcess) := by
  have hlen : xs.length ≤ tot ctProcess xs := len_tot fun x => by unfold ctProcess; omega
  have loop : loopV X_laws_markProcessS 1 [0, 1, 5] [(1, [1])] B0_laws_markProcessS ⟨[(0, .sl ⟨0, none, 0⟩ 4 0 xs.length), (1, .int .i64 k), (5, .int .i64 0)], [some ⟨false, 0, 4, xs.map cProcess⟩]⟩ = some (.exit 0, ⟨[(1, .int .i64 (k + (tot ctProcess xs : Nat)))], [some ⟨false, 0, 4, (mkL mkProcess ctProcess xs k).map cProcess⟩]⟩) := by
    refine loop_list xs (fun i (a : List DProcess × Int) => a.1.length = i ∧ 1 ≤ a.2 ∧ a.2 + (tot ctProcess (xs.drop i) : Nat) ≤ 4611686018427387000) (fun i a => ⟨[(0, .sl ⟨0, none, 0⟩ 4 0 xs.length), (1, .int .i64 a.2), (5, .int .i64 ((i : Nat) : Int))], [some ⟨false, 0, 4, (a.1 ++ xs.drop i).map cProcess⟩]⟩) (fun rest a => some (.exit 0, ⟨[(1, .int .i64 (a.2 + (tot ctProcess rest : Nat)))], [some ⟨false, 0, 4, (a.1 ++ mkL mkProcess ctProcess rest a.2).map cProcess⟩]⟩)) ?_ ?_ ([], k) ⟨rfl, h1, h2⟩
    · rintro a ⟨hy, a1, a2⟩
      rw [loopV_by B0_laws_markProcessS.eq_1]
      simp only [EG, EL, ↓reduceIte, Nat.reduceEqDiff, Nat.reduceAdd, Nat.reduceSub, Nat.reduceMul, Nat.reduceLeDiff, Nat.reduceLT, Int.reduceLT, Int.reduceLE, Int.reduceEq, Int.reduceToNat, reduceCtorEq, int_lt_irrefl, List.drop_length, tot, mkL, Int.natCast_zero, Int.add_zero]
    · rintro i h x rest a rfl rfl ⟨hy, a1, a2⟩ ih
      have hi : (i : Int) < (xs.length : Int) := by omega
      have hd : xs.drop i = xs[i] :: xs.drop (i + 1) := List.drop_eq_getElem_cons h
      have ht : tot ctProcess (xs.drop i) = ctProcess xs[i] + tot ctProcess (xs.drop (i + 1)) := by rw [hd]; rfl
      have hc : ctProcess xs[i] = 1 + tot ct1 xs[i].Uses + tot ct1 xs[i].Vars + 1 := rfl
      have hlm : i < ((a.1 ++ xs.drop i).map cProcess).length := by rw [mid_len hy h]; exact h
      have hll : i < a.1.length + (xs.drop i).length := by rw [List.length_drop]; omega
      have hg := mid_get (c := cProcess) hy h
      have hf := mid_set (c := cProcess) hy h (x := (mkProcess xs[i] a.2)) rfl
      have hk : ((((a.2 + 1) + (tot ct1 xs[i].Uses : Nat)) + (tot ct1 xs[i].Vars : Nat)) + 1) = a.2 + ((ctProcess xs[i] : Nat) : Int) := by rw [hc]; omega
      simp only [cProcess, mkProcess] at hf
      rw [loopV_by B0_laws_markProcessS.eq_1]
      simp (maxSteps := 10000000) (disch := first | assumption | omega) only [EG, EL, ↓reduceIte, Nat.reduceEqDiff, Nat.reduceAdd, Nat.reduceSub, Nat.reduceMul, Nat.reduceLeDiff, Nat.reduceLT, Int.reduceLT, Int.reduceLE, Int.reduceEq, Int.reduceToNat, reduceCtorEq, FB, FT, hi, h, hg, hlm, hll, cx_laws_markProcessS, cl_laws_markText, sem_laws_markText, cl_laws_markStringS, sem_laws_markStringS, wrapI, splice_eq, set_getD, set_set, hf]
      rw [show ((i : Nat) : Int) + 1 = ((i + 1 : Nat) : Int) by omega]
      have hih := ih (a.1 ++ [(mkProcess xs[i] a.2)], ((((a.2 + 1) + (tot ct1 xs[i].Uses : Nat)) + (tot ct1 xs[i].Vars : Nat)) + 1)) ⟨by simp [hy], by show 1 ≤ ((((a.2 + 1) + (tot ct1 xs[i].Uses : Nat)) + (tot ct1 xs[i].Vars : Nat)) + 1); omega, by show ((((a.2 + 1) + (tot ct1 xs[i].Uses : Nat)) + (tot ct1 xs[i].Vars : Nat)) + 1) + _ ≤ _; omega⟩
      simp only [mkProcess] at hih
      rw [hih]
      simp only [hk, tot, mkL, List.append_assoc, List.singleton_append]
      rw [show a.2 + ((ctProcess xs[i] : Nat) : Int) + ((tot ctProcess (xs.drop (i + 1)) : Nat) : Int) = a.2 + ((ctProcess xs[i] + tot ctProcess (xs.drop (i + 1)) : Nat) : Int) by omega]
      try rfl
  rw [sg_laws_markProcessS, sem_goM]
  simp (maxSteps := 10000000) (disch := first | assumption | omega) only [F_laws_markProcessS, params, EG, EL, ↓reduceIte, Nat.reduceEqDiff, Nat.reduceAdd, Nat.reduceSub, Nat.reduceMul, Nat.reduceLeDiff, Nat.reduceLT, Int.reduceLT, Int.reduceLE, Int.reduceEq, Int.reduceToNat, reduceCtorEq, FB, FT, cx_laws_markProcessS, cl_laws_markText, sem_laws_markText, cl_laws_markStringS, sem_laws_markStringS, loop]
theorem sem_laws_heldStringS (xs : List ByteArray) (k : Int) (h1 : 1 ≤ k) (h2 : k + (tot ct1 xs : Nat) ≤ 4611686018427387000) : S_laws_heldStringS.sem [.tree 1 ((mkL mkS ct1 xs k).map cS), .int .i64 k] = some (.int .i64 (k + (tot ct1 xs : Nat)), []) := by
  have hlen : xs.length ≤ tot ct1 xs := len_ct1
  have hML : (mkL mkS ct1 xs k).length = xs.length := mkL_length
  have loop : loopV X_laws_heldStringS 0 [0, 1, 5] [(1, [1]), (0, [4])] B0_laws_heldStringS ⟨[(0, .tree 1 ((mkL mkS ct1 xs k).map cS)), (1, .int .i64 k), (5, .int .i64 0)], []⟩ = some (Ex.exit 0, (⟨[(1, .int .i64 (k + (tot ct1 xs : Nat)))], []⟩ : St)) := by
    refine loop_list xs (fun i (m : Int) => m = k + (tot ct1 (xs.take i) : Nat)) (fun i m => ⟨[(0, .tree 1 ((mkL mkS ct1 xs k).map cS)), (1, .int .i64 m), (5, .int .i64 ((i : Nat) : Int))], []⟩) (fun rest a => some (Ex.exit 0, (⟨[(1, .int .i64 (k + (tot ct1 xs : Nat)))], []⟩ : St))) ?_ ?_ k (by simp [tot])
    · rintro m rfl
      rw [loopV_by B0_laws_heldStringS.eq_1]
      simp only [EG, EL, ↓reduceIte, Nat.reduceEqDiff, Nat.reduceAdd, Nat.reduceSub, Nat.reduceMul, Nat.reduceLeDiff, Nat.reduceLT, Int.reduceLT, Int.reduceLE, Int.reduceEq, Int.reduceToNat, reduceCtorEq, int_lt_irrefl, hML, tot_take_end]
    · rintro i h x rest m rfl rfl hm ih
      have hi : (i : Int) < (xs.length : Int) := by omega
      have ht := tot_take_le (f := ct1) h
      have hs := tot_take1 (f := ct1) h
      have hc : ct1 xs[i] = 1 := rfl
      have hg : ((mkL mkS ct1 xs k).map cS).getD i [] = cS (mkS xs[i] m) := by
        have h' : i < (mkL mkS ct1 xs k).length := by omega
        rw [getRow _ _ h', mkL_get h, hm]
      simp only [cS, mkS] at hg
      rw [loopV_by B0_laws_heldStringS.eq_1]
      simp (maxSteps := 10000000) (disch := first | assumption | omega) only [EG, EL, ↓reduceIte, Nat.reduceEqDiff, Nat.reduceAdd, Nat.reduceSub, Nat.reduceMul, Nat.reduceLeDiff, Nat.reduceLT, Int.reduceLT, Int.reduceLE, Int.reduceEq, Int.reduceToNat, reduceCtorEq, FB, FT, ED, hi, hML, hg, cx_laws_heldStringS, cl_laws_markText, sem_laws_markText, wrapI]
      repeat rw [if_neg (by omega)]
      rw [show ((i : Nat) : Int) + 1 = ((i + 1 : Nat) : Int) by omega]
      exact ih _ (by omega)
  rw [sg_laws_heldStringS, sem_go]
  simp (maxSteps := 10000000) (disch := first | assumption | omega) only [F_laws_heldStringS, params, EG, EL, ↓reduceIte, Nat.reduceEqDiff, Nat.reduceAdd, Nat.reduceSub, Nat.reduceMul, Nat.reduceLeDiff, Nat.reduceLT, Int.reduceLT, Int.reduceLE, Int.reduceEq, Int.reduceToNat, reduceCtorEq, FB, FT, cx_laws_heldStringS, cl_laws_markText, sem_laws_markText, loop]
theorem sem_laws_heldIntS (xs : List Int) (k : Int) (h1 : 1 ≤ k) (h2 : k + (tot ct1 xs : Nat) ≤ 4611686018427387000) : S_laws_heldIntS.sem [.tree 1 ((mkL mkI ct1 xs k).map cI), .int .i64 k] = some (.int .i64 (k + (tot ct1 xs : Nat)), []) := by
  have hlen : xs.length ≤ tot ct1 xs := len_ct1
  have hML : (mkL mkI ct1 xs k).length = xs.length := mkL_length
  have loop : loopV X_laws_heldIntS 0 [0, 1, 5] [(1, [1]), (0, [4])] B0_laws_heldIntS ⟨[(0, .tree 1 ((mkL mkI ct1 xs k).map cI)), (1, .int .i64 k), (5, .int .i64 0)], []⟩ = some (Ex.exit 0, (⟨[(1, .int .i64 (k + (tot ct1 xs : Nat)))], []⟩ : St)) := by
    refine loop_list xs (fun i (m : Int) => m = k + (tot ct1 (xs.take i) : Nat)) (fun i m => ⟨[(0, .tree 1 ((mkL mkI ct1 xs k).map cI)), (1, .int .i64 m), (5, .int .i64 ((i : Nat) : Int))], []⟩) (fun rest a => some (Ex.exit 0, (⟨[(1, .int .i64 (k + (tot ct1 xs : Nat)))], []⟩ : St))) ?_ ?_ k (by simp [tot])
    · rintro m rfl
      rw [loopV_by B0_laws_heldIntS.eq_1]
      simp only [EG, EL, ↓reduceIte, Nat.reduceEqDiff, Nat.reduceAdd, Nat.reduceSub, Nat.reduceMul, Nat.reduceLeDiff, Nat.reduceLT, Int.reduceLT, Int.reduceLE, Int.reduceEq, Int.reduceToNat, reduceCtorEq, int_lt_irrefl, hML, tot_take_end]
    · rintro i h x rest m rfl rfl hm ih
      have hi : (i : Int) < (xs.length : Int) := by omega
      have ht := tot_take_le (f := ct1) h
      have hs := tot_take1 (f := ct1) h
      have hc : ct1 xs[i] = 1 := rfl
      have hg : ((mkL mkI ct1 xs k).map cI).getD i [] = cI (mkI xs[i] m) := by
        have h' : i < (mkL mkI ct1 xs k).length := by omega
        rw [getRow _ _ h', mkL_get h, hm]
      simp only [cI, mkI] at hg
      rw [loopV_by B0_laws_heldIntS.eq_1]
      simp (maxSteps := 10000000) (disch := first | assumption | omega) only [EG, EL, ↓reduceIte, Nat.reduceEqDiff, Nat.reduceAdd, Nat.reduceSub, Nat.reduceMul, Nat.reduceLeDiff, Nat.reduceLT, Int.reduceLT, Int.reduceLE, Int.reduceEq, Int.reduceToNat, reduceCtorEq, FB, FT, hi, hML, hg, cx_laws_heldIntS, wrapI]
      repeat rw [if_neg (by omega)]
      rw [show ((i : Nat) : Int) + 1 = ((i + 1 : Nat) : Int) by omega]
      exact ih _ (by omega)
  rw [sg_laws_heldIntS, sem_go]
  simp (maxSteps := 10000000) (disch := first | assumption | omega) only [F_laws_heldIntS, params, EG, EL, ↓reduceIte, Nat.reduceEqDiff, Nat.reduceAdd, Nat.reduceSub, Nat.reduceMul, Nat.reduceLeDiff, Nat.reduceLT, Int.reduceLT, Int.reduceLE, Int.reduceEq, Int.reduceToNat, reduceCtorEq, FB, FT, cx_laws_heldIntS, loop]
theorem sem_laws_heldPlaces (x : DPlaces) (k : Int) (h1 : 1 ≤ k) (h2 : k + (cwPlaces x : Nat) ≤ 4611686018427387000) : S_laws_heldPlaces.sem [.agg [.tree 1 ((mkL mkS ct1 x.Names k).map cS), .tree 1 ((mkL mkI ct1 x.Ats (k + (tot ct1 x.Names : Nat))).map cI)], .int .i64 k] = some (.int .i64 ((k + (tot ct1 x.Names : Nat)) + (tot ct1 x.Ats : Nat)), []) := by
  show S_laws_heldPlaces.sem [.agg (cPlaces (mwPlaces x k)), .int .i64 k] = some (.int .i64 ((k + (tot ct1 x.Names : Nat)) + (tot ct1 x.Ats : Nat)), [])
  have hc : cwPlaces x = tot ct1 x.Names + tot ct1 x.Ats := rfl
  rw [sg_laws_heldPlaces, sem_go]
  simp (maxSteps := 10000000) (disch := first | assumption | omega) only [F_laws_heldPlaces, params, EG, EL, ↓reduceIte, Nat.reduceEqDiff, Nat.reduceAdd, Nat.reduceSub, Nat.reduceMul, Nat.reduceLeDiff, Nat.reduceLT, Int.reduceLT, Int.reduceLE, Int.reduceEq, Int.reduceToNat, reduceCtorEq, FB, FT, cx_laws_heldPlaces, cl_laws_heldStringS, sem_laws_heldStringS, cl_laws_heldIntS, sem_laws_heldIntS, mwPlaces]
  repeat rw [if_neg (by omega)]
theorem sem_spec_l01In (a lo hi : Int) : S_spec_l01In.sem [.int .i64 a, .int .i64 lo, .int .i64 hi] = some (.bool (decide (lo ≤ a ∧ a ≤ hi)), []) := by
  rw [sg_spec_l01In, sem_go]
  simp (maxSteps := 10000000) (disch := first | assumption | omega) only [F_spec_l01In, params, EG, EL, ↓reduceIte, Nat.reduceEqDiff, Nat.reduceAdd, Nat.reduceSub, Nat.reduceMul, Nat.reduceLeDiff, Nat.reduceLT, Int.reduceLT, Int.reduceLE, Int.reduceEq, Int.reduceToNat, reduceCtorEq, FB, cx_spec_l01In]
  by_cases h1 : lo ≤ a <;> by_cases h2 : a ≤ hi <;> simp [h1, h2]
theorem sem_impl_within (a lo hi : Int) : S_impl_within.sem [.int .i64 a, .int .i64 lo, .int .i64 hi] = some (.bool (decide (lo ≤ a ∧ a ≤ hi)), []) := by
  rw [sg_impl_within, sem_go]
  simp (maxSteps := 10000000) (disch := first | assumption | omega) only [F_impl_within, params, EG, EL, ↓reduceIte, Nat.reduceEqDiff, Nat.reduceAdd, Nat.reduceSub, Nat.reduceMul, Nat.reduceLeDiff, Nat.reduceLT, Int.reduceLT, Int.reduceLE, Int.reduceEq, Int.reduceToNat, reduceCtorEq, FB, cx_impl_within]
  by_cases h1 : lo ≤ a <;> by_cases h2 : a ≤ hi <;> simp [h1, h2]
def gateNew (n : Int) : DGate := ⟨-1, [], if 0 < n then (if 1 < n then [-1, -1] else [-1]) else []⟩
theorem wrap_one : IntKind.wrap .i64 (0 + 1) = 1 := by decide
theorem wrap_two : IntKind.wrap .i64 (1 + 1) = 2 := by decide
theorem min2_0 {n : Int} : (0 < (if 2 < n then 2 else n)) = (0 < n) := by split <;> simp <;> omega
theorem min2_1 {n : Int} : (1 < (if 2 < n then 2 else n)) = (1 < n) := by split <;> simp <;> omega
theorem min2_2 {n : Int} : (2 < (if 2 < n then 2 else n)) = False := by split <;> simp <;> omega
def procCore (x : DImage) (i : Nat) : DCore := ⟨List.replicate 8 0, if h : i < x.Starts.length then x.Starts[i] else 0, i⟩
def coresF (x : DImage) : List DProcess → Nat → List DCore
  | [], _ => []
  | _ :: r, i => procCore x i :: coresF x r (i + 1)
def readyF : List DProcess → Nat → List Int
  | [], _ => []
  | _ :: r, i => (i : Int) :: readyF r (i + 1)
def overF : List DProcess → List Bool
  | [] => []
  | _ :: r => false :: overF r
def monG (m : DMonitor) : DGate := gateNew m.Queues.length
def kernelNew (p : DProgram) (x : DImage) : DKernel := ⟨p.Monitors.map monG, readyF p.Processes 0, coresF x p.Processes 0, overF p.Processes⟩
theorem gateNew_len {n : Int} : (gateNew n).Waits.length + (gateNew n).Queues.length ≤ 2 := by
  unfold gateNew; split <;> (try split) <;> simp
theorem tot_monG : ∀ {ms : List DMonitor}, tot wtGate (ms.map monG) ≤ 2 * ms.length
  | [] => Nat.le_refl _
  | m :: ms => by
    have := @tot_monG ms
    have h := @gateNew_len (m.Queues.length : Int)
    simp only [List.map_cons, tot, List.length_cons, monG, wtGate] at *
    omega
theorem coresF_tot {x : DImage} : ∀ {ps : List DProcess} {i : Nat}, tot wtCore (coresF x ps i) = 8 * ps.length ∧ (coresF x ps i).length = ps.length ∧ (readyF ps i).length = ps.length ∧ (overF ps).length = ps.length
  | [], _ => ⟨rfl, rfl, rfl, rfl⟩
  | p :: ps, i => by
    obtain ⟨a, b, c, d⟩ := @coresF_tot x ps (i + 1)
    simp only [coresF, readyF, overF, tot, List.length_cons, wtCore, procCore, List.length_replicate] at *
    omega
def insOk (op a b c : Int) : Bool := decide ((1 ≤ op ∧ op ≤ 10) ∧ (0 ≤ a ∧ a ≤ 7) ∧ (0 ≤ b ∧ b ≤ 7) ∧ (0 ≤ c ∧ c ≤ 4194303) ∧ (op = 4 ∨ b = 0) ∧ (op ≠ 1 ∨ c ≤ 1000000) ∧ (op ≠ 4 ∨ (1 ≤ c ∧ c ≤ 9)) ∧ ((op ≠ 5 ∧ op ≠ 6) ∨ c = 0) ∧ (op ≠ 8 ∨ a = 0) ∧ (op ≠ 10 ∨ 1 ≤ a))
theorem insOk_no {op a b c : Int} (h : ¬ ((1 ≤ op ∧ op ≤ 10) ∧ (0 ≤ a ∧ a ≤ 7) ∧ (0 ≤ b ∧ b ≤ 7) ∧ (0 ≤ c ∧ c ≤ 4194303) ∧ (op = 4 ∨ b = 0))) : insOk op a b c = false := by
  unfold insOk; apply decide_eq_false; omega
theorem insOk_t {op a b c : Int} (h : (1 ≤ op ∧ op ≤ 10) ∧ (0 ≤ a ∧ a ≤ 7) ∧ (0 ≤ b ∧ b ≤ 7) ∧ (0 ≤ c ∧ c ≤ 4194303) ∧ (op = 4 ∨ b = 0) ∧ (op ≠ 1 ∨ c ≤ 1000000) ∧ (op ≠ 4 ∨ (1 ≤ c ∧ c ≤ 9)) ∧ ((op ≠ 5 ∧ op ≠ 6) ∨ c = 0) ∧ (op ≠ 8 ∨ a = 0) ∧ (op ≠ 10 ∨ 1 ≤ a)) : some (AV.bool true, ([] : List (List AV))) = some (.bool (insOk op a b c), []) := by
  unfold insOk; rw [decide_eq_true h]
theorem insOk_f {op a b c : Int} (h : ¬ ((1 ≤ op ∧ op ≤ 10) ∧ (0 ≤ a ∧ a ≤ 7) ∧ (0 ≤ b ∧ b ≤ 7) ∧ (0 ≤ c ∧ c ≤ 4194303) ∧ (op = 4 ∨ b = 0) ∧ (op ≠ 1 ∨ c ≤ 1000000) ∧ (op ≠ 4 ∨ (1 ≤ c ∧ c ≤ 9)) ∧ ((op ≠ 5 ∧ op ≠ 6) ∨ c = 0) ∧ (op ≠ 8 ∨ a = 0) ∧ (op ≠ 10 ∨ 1 ≤ a))) : some (AV.bool false, ([] : List (List AV))) = some (.bool (insOk op a b c), []) := by
  unfold insOk; rw [decide_eq_false h]
theorem insOk_d {op a b c : Int} {p : Prop} [Decidable p] (h : p ↔ ((1 ≤ op ∧ op ≤ 10) ∧ (0 ≤ a ∧ a ≤ 7) ∧ (0 ≤ b ∧ b ≤ 7) ∧ (0 ≤ c ∧ c ≤ 4194303) ∧ (op = 4 ∨ b = 0) ∧ (op ≠ 1 ∨ c ≤ 1000000) ∧ (op ≠ 4 ∨ (1 ≤ c ∧ c ≤ 9)) ∧ ((op ≠ 5 ∧ op ≠ 6) ∨ c = 0) ∧ (op ≠ 8 ∨ a = 0) ∧ (op ≠ 10 ∨ 1 ≤ a))) : some (AV.bool (decide p), ([] : List (List AV))) = some (.bool (insOk op a b c), []) := by
  unfold insOk; rw [decide_eq_decide.2 h]
def valOk (n : Int) : Bool := decide (-1000000 ≤ n ∧ n ≤ 1000000)
def bitF (b : Bool) : Int := if b = true then 1 else 0
def dOp (w : Int) : Int := w.fdiv (2 ^ 28)
def s25 (w : Int) : Int := w.fdiv (2 ^ 25)
def s22 (w : Int) : Int := w.fdiv (2 ^ 22)
def dA (w : Int) : Int := IntKind.wrap .i64 (BitVec.ofInt 64 (s25 w) &&& BitVec.ofInt 64 7).toNat
def dB (w : Int) : Int := IntKind.wrap .i64 (BitVec.ofInt 64 (s22 w) &&& BitVec.ofInt 64 7).toNat
def dC (w : Int) : Int := IntKind.wrap .i64 (BitVec.ofInt 64 w &&& BitVec.ofInt 64 4194303).toNat
theorem b28 {w : Int} : bin .shr (.int .i64 w) (.int .u64 28) = some (.int .i64 (dOp w)) := rfl
theorem b25 {w : Int} : bin .shr (.int .i64 w) (.int .u64 25) = some (.int .i64 (s25 w)) := rfl
theorem b22 {w : Int} : bin .shr (.int .i64 w) (.int .u64 22) = some (.int .i64 (s22 w)) := rfl
theorem bA {w : Int} : bin .and (.int .i64 (s25 w)) (.int .i64 7) = some (.int .i64 (dA w)) := rfl
theorem bB {w : Int} : bin .and (.int .i64 (s22 w)) (.int .i64 7) = some (.int .i64 (dB w)) := rfl
theorem bC {w : Int} : bin .and (.int .i64 w) (.int .i64 4194303) = some (.int .i64 (dC w)) := rfl
theorem valOk_zero : valOk 0 = true := by decide
theorem big_op {w : Int} (h : ¬ w ≤ 8589934592) : insOk (dOp w) (dA w) (dB w) (dC w) = false := by
  apply insOk_no
  have : 11 ≤ dOp w := by unfold dOp; rw [Int.fdiv_eq_ediv_of_nonneg _ (by decide)]; omega
  omega
def decOk (w : Int) : Bool := decide (0 ≤ w) && insOk (dOp w) (dA w) (dB w) (dC w)
def decR (w : Int) : AV := if decOk w = true then .tup [.agg [.int .i64 (dOp w), .int .i64 (dA w), .int .i64 (dB w), .int .i64 (dC w)], .bool true] else .tup [.agg [.int .i64 0, .int .i64 0, .int .i64 0, .int .i64 0], .bool false]
def calcN (op a b : Int) : Int := if op = 1 then IntKind.wrap .i64 (a + b) else if op = 2 then IntKind.wrap .i64 (a - b) else if op = 3 then IntKind.wrap .i64 (a * b) else if op = 4 then IntKind.wrap .i64 (a.tdiv b) else if op = 5 then a.tmod b else if op = 6 then bitF (decide (a < b)) else if op = 7 then bitF (decide (a = b)) else if op = 8 then bitF (!decide (a = 0) && !decide (b = 0)) else bitF (!decide (a = 0) || !decide (b = 0))
def calcF (op a b : Int) : Int × Int := if valOk a = true ∧ valOk b = true ∧ 1 ≤ op ∧ op ≤ 9 then (if b = 0 ∧ (op = 4 ∨ op = 5) then (0, 2) else if valOk (calcN op a b) = true then (calcN op a b, 0) else (0, 1)) else (0, 1)
def negF (a : Int) : Int × Int := if valOk a = true then (IntKind.wrap .i64 (0 - a), 0) else (0, 1)
def coreOkF (c : DCore) : Bool := c.Regs.all valOk && (decide (c.Regs.length = 8) && (decide (0 ≤ c.Pc) && decide (-1 ≤ c.Process ∧ c.Process ≤ 3)))
def stepG (x : DCore) (m : List Int) (op : Int) (a b c : Nat) : DCore × List Int × Int :=
  if op = 2 ∨ op = 3 ∨ op = 9 then
    if m.length ≤ c then (x, m, 4)
    else if op = 3 then ({ x with Pc := IntKind.wrap .i64 (x.Pc + 1) }, m.set c (x.Regs.getD a 0), 0)
    else if valOk (m.getD c 0) = true then ({ x with Regs := x.Regs.set a (m.getD c 0), Pc := IntKind.wrap .i64 (x.Pc + 1) }, if op = 9 then m.set c 1 else m, 0)
    else (x, m, 4)
  else if op = 7 then ({ x with Pc := if x.Regs.getD a 0 = 0 then (c : Int) else IntKind.wrap .i64 (x.Pc + 1) }, m, 0)
  else if op = 8 then ({ x with Pc := (c : Int) }, m, 0)
  else if op = 10 then ({ x with Pc := IntKind.wrap .i64 (x.Pc + 1) }, m, 10)
  else
    let r : Int × Int := if op = 1 then ((c : Int), 0) else if op = 4 then calcF c (x.Regs.getD a 0) (x.Regs.getD b 0) else if op = 5 then (bitF (decide (x.Regs.getD a 0 = 0)), 0) else negF (x.Regs.getD a 0)
    if r.2 = 0 then ({ x with Regs := x.Regs.set a r.1, Pc := IntKind.wrap .i64 (x.Pc + 1) }, m, 0) else (x, m, r.2)
def stepF (x : DCore) (t m : List Int) : DCore × List Int × Int :=
  if coreOkF x = true ∧ (0 ≤ x.Pc ∧ x.Pc ≤ (t.length : Int) - 1) ∧ decOk (t.getD x.Pc.toNat 0) = true then stepG x m (dOp (t.getD x.Pc.toNat 0)) (dA (t.getD x.Pc.toNat 0)).toNat (dB (t.getD x.Pc.toNat 0)).toNat (dC (t.getD x.Pc.toNat 0)).toNat else (x, m, 4)
theorem decOk_bounds {w : Int} (h : decOk w = true) : ∃ op : Int, ∃ a b c : Nat, dOp w = op ∧ dA w = (a : Int) ∧ dB w = (b : Int) ∧ dC w = (c : Int) ∧ (1 ≤ op ∧ op ≤ 10) ∧ a < 8 ∧ b < 8 ∧ c ≤ 4194303 := by
  simp only [decOk, insOk, Bool.and_eq_true, decide_eq_true_eq] at h
  exact ⟨dOp w, (dA w).toNat, (dB w).toNat, (dC w).toNat, rfl, by omega, by omega, by omega, by omega, by omega, by omega, by omega⟩
theorem coreOk_len {x : DCore} (h : coreOkF x = true) : x.Regs.length = 8 ∧ 0 ≤ x.Pc := by
  simp only [coreOkF, Bool.and_eq_true, decide_eq_true_eq] at h
  exact ⟨h.2.1, h.2.2.1⟩
theorem stepG_len {x : DCore} {m : List Int} {op : Int} {a b c : Nat} : (stepG x m op a b c).1.Regs.length = x.Regs.length ∧ (stepG x m op a b c).2.1.length = m.length := by
  unfold stepG
  dsimp only
  repeat' split
  all_goals first | exact ⟨rfl, rfl⟩ | (simp only [List.length_set]; exact ⟨rfl, rfl⟩) | simp
theorem stepF_regs {x : DCore} {t m : List Int} : (stepF x t m).1.Regs.length = x.Regs.length := by
  unfold stepF; split
  · exact stepG_len.1
  · rfl
theorem stepF_mem {x : DCore} {t m : List Int} : (stepF x t m).2.1.length = m.length := by
  unfold stepF; split
  · exact stepG_len.2
  · rfl
def nV (m : DMonitor) : Nat := m.Vars.length
def nP (q : DProcess) : Nat := q.Vars.length + 2
def pv (p : DProgram) (k : Nat) : Nat := match p.Processes[k]? with | some q => q.Vars.length | none => 0
theorem pv_eq {p : DProgram} {k : Nat} (h : k < p.Processes.length) : pv p k = p.Processes[k].Vars.length := by simp [pv, h]
def procIn (p : DProgram) (k : Int) : Prop := 0 ≤ k ∧ k ≤ (p.Processes.length : Int) - 1
instance (p : DProgram) (k : Int) : Decidable (procIn p k) := inferInstanceAs (Decidable (_ ∧ _))
def varAt (p : DProgram) (k i : Int) : Int := if (0 ≤ k ∧ k ≤ (p.Processes.length : Int) - 1) ∧ (0 ≤ i ∧ i ≤ (pv p k.toNat : Int)) then ((1 + tot nV p.Monitors + tot nP (p.Processes.take k.toNat) : Nat) : Int) + i else -1
theorem tot_drop {α : Type} {f : α → Nat} {xs : List α} {i : Nat} (h : i < xs.length) : tot f (xs.drop i) = f xs[i] + tot f (xs.drop (i + 1)) := by
  rw [List.drop_eq_getElem_cons h]; rfl
theorem totTake_le {α : Type} {f : α → Nat} : ∀ {xs : List α} {n : Nat}, tot f (xs.take n) ≤ tot f xs
  | [], n => by simp
  | x :: xs, 0 => by simp [tot]
  | x :: xs, n + 1 => by have := @totTake_le α f xs n; simp only [List.take_succ_cons, tot]; omega
theorem tot_mono {α : Type} {f g : α → Nat} (h : ∀ x, f x ≤ g x) : ∀ {xs : List α}, tot f xs ≤ tot g xs
  | [] => Nat.le_refl _
  | x :: xs => by have := @tot_mono _ _ _ h xs; have := h x; simp only [tot]; omega
theorem tot_nP : ∀ {xs : List DProcess}, tot nP xs ≤ tot wtProcess xs + 2 * xs.length
  | [] => Nat.le_refl _
  | x :: xs => by have := @tot_nP xs; simp only [tot, nP, wtProcess, List.length_cons]; omega
theorem tot_nV {xs : List DMonitor} : tot nV xs ≤ tot wtMonitor xs := tot_mono fun x => by unfold nV wtMonitor; omega
theorem sem_spec_l18Vars (p : DProgram) (hM : p.Monitors.length ≤ 1048576) (hV : tot nV p.Monitors ≤ 1048576) : S_spec_l18Vars.sem [.agg (cProgram p)] = some (.int .i64 (tot nV p.Monitors : Nat), []) := by
  have loop : loopV X_spec_l18Vars 0 [1, 3, 4] [(1, [3])] B0_spec_l18Vars ⟨[(1, .ptr ⟨0, none, 0⟩ 3 0 0), (3, .int .i64 0), (4, .int .i64 0)], [some ⟨true, 0, 3, [cProgram p]⟩]⟩ = some (.exit 0, ⟨[(3, .int .i64 ((0 + tot nV p.Monitors : Nat) : Int))], []⟩) := by
    refine loop_list p.Monitors (fun i a => a + tot nV (p.Monitors.drop i) ≤ 1048576) (fun i a => ⟨[(1, .ptr ⟨0, none, 0⟩ 3 0 0), (3, .int .i64 ((a : Nat) : Int)), (4, .int .i64 ((i : Nat) : Int))], [some ⟨true, 0, 3, [cProgram p]⟩]⟩) (fun rest a => some (.exit 0, ⟨[(3, .int .i64 ((a + tot nV rest : Nat) : Int))], []⟩)) ?_ ?_ 0 (by simpa using hV)
    · intro a _
      rw [loopV_by B0_spec_l18Vars.eq_1]
      simp only [EG, EL, ↓reduceIte, Nat.reduceEqDiff, Nat.reduceAdd, Nat.reduceSub, Nat.reduceMul, Nat.reduceLeDiff, Nat.reduceLT, Int.reduceLT, Int.reduceLE, Int.reduceEq, Int.reduceToNat, reduceCtorEq, FB, int_lt_irrefl, tot, Nat.add_zero]
    · rintro i hi0 y rest a rfl rfl hI ih
      have hi : (i : Int) < (p.Monitors.length : Int) := by omega
      rw [tot_drop hi0] at hI
      have hn : nV p.Monitors[i] = p.Monitors[i].Vars.length := rfl
      have hw : IntKind.wrap .i64 ((a : Int) + (p.Monitors[i].Vars.length : Int)) = ((a + nV p.Monitors[i] : Nat) : Int) := by rw [wrapI (by omega) (by omega)]; omega
      have i1 := ih (a + nV p.Monitors[i]) (by omega)
      simp only [cProgram] at i1
      rw [loopV_by B0_spec_l18Vars.eq_1]
      simp (maxSteps := 10000000) (disch := first | assumption | omega) only [cProgram, EG, EL, ↓reduceIte, Nat.reduceEqDiff, Nat.reduceAdd, Nat.reduceSub, Nat.reduceMul, Nat.reduceLeDiff, Nat.reduceLT, Int.reduceLT, Int.reduceLE, Int.reduceEq, Int.reduceToNat, reduceCtorEq, FB, hi, wrap_succ, getRow _ _ hi0, hw, i1, tot, Nat.add_assoc]
  rw [sg_spec_l18Vars, sem_go]
  simp only [cProgram, EG, EL, ↓reduceIte, Nat.reduceEqDiff, Nat.reduceAdd, Nat.reduceSub, Nat.reduceMul, Nat.reduceLeDiff, Nat.reduceLT, Int.reduceLT, Int.reduceLE, Int.reduceEq, Int.reduceToNat, reduceCtorEq, FB, Nat.zero_add] at loop
  simp (maxSteps := 10000000) (disch := first | assumption | omega) only [cProgram, F_spec_l18Vars, params, EG, EL, ↓reduceIte, Nat.reduceEqDiff, Nat.reduceAdd, Nat.reduceSub, Nat.reduceMul, Nat.reduceLeDiff, Nat.reduceLT, Int.reduceLT, Int.reduceLE, Int.reduceEq, Int.reduceToNat, reduceCtorEq, FB, loop]
theorem sem_impl_sharedSize (ms : List DMonitor) (hM : ms.length ≤ 1048576) (hV : tot nV ms ≤ 1048576) : S_impl_sharedSize.sem [.tree 4 (ms.map cMonitor)] = some (.int .i64 (tot nV ms : Nat), []) := by
  have loop : loopV X_impl_sharedSize 0 [3, 6, 7, 8] [(1, [3])] B0_impl_sharedSize ⟨[(3, .int .i64 0), (6, .tree 4 (ms.map cMonitor)), (7, .int .i64 ms.length), (8, .int .i64 0)], []⟩ = some (.exit 0, ⟨[(3, .int .i64 ((0 + tot nV ms : Nat) : Int))], []⟩) := by
    refine loop_list ms (fun i a => a + tot nV (ms.drop i) ≤ 1048576) (fun i a => ⟨[(3, .int .i64 ((a : Nat) : Int)), (6, .tree 4 (ms.map cMonitor)), (7, .int .i64 ms.length), (8, .int .i64 ((i : Nat) : Int))], []⟩) (fun rest a => some (.exit 0, ⟨[(3, .int .i64 ((a + tot nV rest : Nat) : Int))], []⟩)) ?_ ?_ 0 (by simpa using hV)
    · intro a _
      rw [loopV_by B0_impl_sharedSize.eq_1]
      simp only [EG, EL, ↓reduceIte, Nat.reduceEqDiff, Nat.reduceAdd, Nat.reduceSub, Nat.reduceMul, Nat.reduceLeDiff, Nat.reduceLT, Int.reduceLT, Int.reduceLE, Int.reduceEq, Int.reduceToNat, reduceCtorEq, FB, int_lt_irrefl, tot, Nat.add_zero]
    · rintro i hi0 y rest a rfl rfl hI ih
      have hi : (i : Int) < (ms.length : Int) := by omega
      rw [tot_drop hi0] at hI
      have hn : nV ms[i] = ms[i].Vars.length := rfl
      have hw : IntKind.wrap .i64 ((a : Int) + (ms[i].Vars.length : Int)) = ((a + nV ms[i] : Nat) : Int) := by rw [wrapI (by omega) (by omega)]; omega
      have i1 := ih (a + nV ms[i]) (by omega)
      rw [loopV_by B0_impl_sharedSize.eq_1]
      simp (maxSteps := 10000000) (disch := first | assumption | omega) only [EG, EL, ↓reduceIte, Nat.reduceEqDiff, Nat.reduceAdd, Nat.reduceSub, Nat.reduceMul, Nat.reduceLeDiff, Nat.reduceLT, Int.reduceLT, Int.reduceLE, Int.reduceEq, Int.reduceToNat, reduceCtorEq, FB, ED, FT, hi, wrap_succ, getRow _ _ hi0, hw, i1, tot, Nat.add_assoc]
  rw [sg_impl_sharedSize, sem_go]
  simp only [EG, EL, ↓reduceIte, Nat.reduceEqDiff, Nat.reduceAdd, Nat.reduceSub, Nat.reduceMul, Nat.reduceLeDiff, Nat.reduceLT, Int.reduceLT, Int.reduceLE, Int.reduceEq, Int.reduceToNat, reduceCtorEq, FB, Nat.zero_add] at loop
  simp (maxSteps := 10000000) (disch := first | assumption | omega) only [F_impl_sharedSize, params, EG, EL, ↓reduceIte, Nat.reduceEqDiff, Nat.reduceAdd, Nat.reduceSub, Nat.reduceMul, Nat.reduceLeDiff, Nat.reduceLT, Int.reduceLT, Int.reduceLE, Int.reduceEq, Int.reduceToNat, reduceCtorEq, FB, loop]
theorem sem_impl_isProcess (p : DProgram) (k : Int) (hP : p.Processes.length ≤ 1048576) : S_impl_isProcess.sem [.agg (cProgram p), .int .i64 k] = some (.bool (decide (0 ≤ k ∧ k ≤ (p.Processes.length : Int) - 1)), []) := by
  have hw : IntKind.wrap .i64 ((p.Processes.length : Int) - 1) = (p.Processes.length : Int) - 1 := wrapI (by omega) (by omega)
  rw [sg_impl_isProcess, sem_go]
  simp (maxSteps := 10000000) (disch := first | assumption | omega) only [cProgram, F_impl_isProcess, params, EG, EL, ↓reduceIte, Nat.reduceEqDiff, Nat.reduceAdd, Nat.reduceSub, Nat.reduceMul, Nat.reduceLeDiff, Nat.reduceLT, Int.reduceLT, Int.reduceLE, Int.reduceEq, Int.reduceToNat, reduceCtorEq, FB, cx_impl_isProcess, cl_impl_within, sem_impl_within, hw]
theorem sem_spec_VarAt (p : DProgram) (kk jj : Int) (hM : p.Monitors.length ≤ 1048576) (hP : p.Processes.length ≤ 1048576) (hV : tot nV p.Monitors ≤ 1048576) (hQ : tot nP p.Processes ≤ 4194304) : S_spec_VarAt.sem [.agg (cProgram p), .int .i64 kk, .int .i64 jj] = some (.int .i64 (varAt p kk jj), []) := by
  have loop : ∀ (k n : Nat) (j : Int), k < p.Processes.length → n ≤ 4194304 → loopV X_spec_VarAt 0 [1, 2, 3, 7, 8] [(1, [2, 7])] B0_spec_VarAt ⟨[(1, .int .i64 ((k : Nat) : Int)), (2, .int .i64 j), (3, .ptr ⟨0, none, 0⟩ 3 0 0), (7, .int .i64 ((1 + tot nV p.Monitors : Nat) : Int)), (8, .int .i64 0)], [some ⟨true, 0, 3, [cProgram p]⟩]⟩ = some (.exit 0, ⟨[(2, .int .i64 j), (7, .int .i64 ((1 + tot nV p.Monitors + tot nP (p.Processes.take k) : Nat) : Int))], []⟩) := by
    intro k n j hk hn4
    have hlen : (p.Processes.take k).length = k := by rw [List.length_take]; omega
    have htk := @totTake_le _ nP p.Processes k
    refine loop_list (p.Processes.take k) (fun i a => a + tot nP ((p.Processes.take k).drop i) ≤ 16777216) (fun i a => ⟨[(1, .int .i64 ((k : Nat) : Int)), (2, .int .i64 j), (3, .ptr ⟨0, none, 0⟩ 3 0 0), (7, .int .i64 ((a : Nat) : Int)), (8, .int .i64 ((i : Nat) : Int))], [some ⟨true, 0, 3, [cProgram p]⟩]⟩) (fun rest a => some (.exit 0, ⟨[(2, .int .i64 j), (7, .int .i64 ((a + tot nP rest : Nat) : Int))], []⟩)) ?_ ?_ (1 + tot nV p.Monitors) (by rw [List.drop_zero]; omega)
    · intro a _
      rw [loopV_by B0_spec_VarAt.eq_1]
      simp only [hlen, EG, EL, ↓reduceIte, Nat.reduceEqDiff, Nat.reduceAdd, Nat.reduceSub, Nat.reduceMul, Nat.reduceLeDiff, Nat.reduceLT, Int.reduceLT, Int.reduceLE, Int.reduceEq, Int.reduceToNat, reduceCtorEq, FB, int_lt_irrefl, tot, Nat.add_zero]
    · rintro i hi0 y rest a rfl rfl hI ih
      have hi1 : i < k := by omega
      have hi2 : i < p.Processes.length := by omega
      have hi : (i : Int) < ((k : Nat) : Int) := by omega
      have hi' : (i : Int) < (p.Processes.length : Int) := by omega
      rw [tot_drop hi0] at hI
      have hge : (p.Processes.take k)[i] = p.Processes[i] := List.getElem_take
      rw [hge] at hI ⊢
      have hn : nP p.Processes[i] = p.Processes[i].Vars.length + 2 := rfl
      have hw : IntKind.wrap .i64 ((a : Int) + (p.Processes[i].Vars.length : Int)) = ((a + p.Processes[i].Vars.length : Nat) : Int) := by rw [wrapI (by omega) (by omega)]; omega
      have hw2 : IntKind.wrap .i64 (((a + p.Processes[i].Vars.length : Nat) : Int) + 2) = ((a + nP p.Processes[i] : Nat) : Int) := by rw [wrapI (by omega) (by omega)]; omega
      have i1 := ih (a + nP p.Processes[i]) (by omega)
      try simp only [cProgram] at i1
      rw [loopV_by B0_spec_VarAt.eq_1]
      simp (maxSteps := 10000000) (disch := first | assumption | omega) only [cProgram, EG, EL, ↓reduceIte, Nat.reduceEqDiff, Nat.reduceAdd, Nat.reduceSub, Nat.reduceMul, Nat.reduceLeDiff, Nat.reduceLT, Int.reduceLT, Int.reduceLE, Int.reduceEq, Int.reduceToNat, reduceCtorEq, FB, ED, FT, hi, hi', wrap_succ, getRow _ _ hi2, getRow _ _ hi0, hge, hlen, hw, hw2, i1, tot, Nat.add_assoc]
  have hsh := sem_spec_l18Vars p hM hV
  have hw : IntKind.wrap .i64 ((p.Processes.length : Int) - 1) = (p.Processes.length : Int) - 1 := wrapI (by omega) (by omega)
  simp only [cProgram] at loop hsh
  rw [sg_spec_VarAt, sem_go]
  by_cases hk : 0 ≤ kk ∧ kk ≤ (p.Processes.length : Int) - 1
  · obtain ⟨k, rfl⟩ : ∃ n : Nat, kk = (n : Int) := ⟨kk.toNat, by omega⟩
    have hkn : k < p.Processes.length := by omega
    have hkn' : (k : Int) < (p.Processes.length : Int) := by omega
    have hkle : (k : Int) ≤ (p.Processes.length : Int) := by omega
    have hlen : (p.Processes.take k).length = k := by rw [List.length_take]; omega
    have hpv := pv_eq hkn
    have htk := @totTake_le _ nP p.Processes k
    have hlp : p.Processes[k].Vars.length + tot nP (p.Processes.take k) ≤ 4194304 := by
      have := @tot_take _ nP p.Processes k hkn
      have : nP p.Processes[k] = p.Processes[k].Vars.length + 2 := rfl
      omega
    by_cases hj : 0 ≤ jj ∧ jj ≤ (p.Processes[k].Vars.length : Int)
    · obtain ⟨n, rfl⟩ : ∃ n : Nat, jj = (n : Int) := ⟨jj.toNat, by omega⟩
      have e : varAt p k n = ((1 + tot nV p.Monitors + tot nP (p.Processes.take k) : Nat) : Int) + n := by
        unfold varAt; rw [Int.toNat_natCast, hpv, if_pos ⟨hk, hj⟩]
      have hf : IntKind.wrap .i64 (((1 + tot nV p.Monitors + tot nP (p.Processes.take k) : Nat) : Int) + (n : Int)) = ((1 + tot nV p.Monitors + tot nP (p.Processes.take k) : Nat) : Int) + (n : Int) := wrapI (by omega) (by omega)
      have hf0 : IntKind.wrap .i64 (1 + ((tot nV p.Monitors : Nat) : Int)) = ((1 + tot nV p.Monitors : Nat) : Int) := by rw [wrapI (by omega) (by omega)]; omega
      have hl := loop k n n hkn (by omega)
      have hre : ((1 + tot nV p.Monitors + n + tot nP (p.Processes.take k) : Nat) : Int) = ((1 + tot nV p.Monitors + tot nP (p.Processes.take k) : Nat) : Int) + (n : Int) := by omega
      try simp only [EG, EL, ↓reduceIte, Nat.reduceEqDiff, Nat.reduceAdd, Nat.reduceSub, Nat.reduceMul, Nat.reduceLeDiff, Nat.reduceLT, Int.reduceLT, Int.reduceLE, Int.reduceEq, Int.reduceToNat, reduceCtorEq, FB, ED, FT] at hl
      simp (maxSteps := 10000000) (disch := first | assumption | omega) only [cProgram, F_spec_VarAt, params, EG, EL, ↓reduceIte, Nat.reduceEqDiff, Nat.reduceAdd, Nat.reduceSub, Nat.reduceMul, Nat.reduceLeDiff, Nat.reduceLT, Int.reduceLT, Int.reduceLE, Int.reduceEq, Int.reduceToNat, reduceCtorEq, FB, ED, FT, cx_spec_VarAt, cl_spec_l01In, sem_spec_l01In, cl_spec_l18Vars, hsh, hw, hk, hj, hkn', getRow _ _ hkn, hf0, hf, hl, hre, e, seg_take, Nat.sub_zero, Int.toNat_natCast, hkle, hlen, decide_true, decide_false, Bool.not_true, Bool.not_false, Bool.true_and, Bool.false_and, Bool.and_true, Bool.and_false, Bool.true_or, Bool.false_or, and_self]
    · have e : varAt p k jj = -1 := by
        unfold varAt; rw [Int.toNat_natCast, hpv, if_neg (fun h => hj h.2)]
      simp (maxSteps := 10000000) (disch := first | assumption | omega) only [cProgram, F_spec_VarAt, params, EG, EL, ↓reduceIte, Nat.reduceEqDiff, Nat.reduceAdd, Nat.reduceSub, Nat.reduceMul, Nat.reduceLeDiff, Nat.reduceLT, Int.reduceLT, Int.reduceLE, Int.reduceEq, Int.reduceToNat, reduceCtorEq, FB, ED, FT, cx_spec_VarAt, cl_spec_l01In, sem_spec_l01In, cl_spec_l18Vars, hsh, hw, hk, hj, hkn', getRow _ _ hkn, e, decide_true, decide_false, Bool.not_true, Bool.not_false, Bool.true_and, Bool.false_and, Bool.and_true, Bool.and_false, Bool.true_or, Bool.false_or, and_self]
  · have e : varAt p kk jj = -1 := by
      unfold varAt; rw [if_neg (fun h => hk h.1)]
    simp (maxSteps := 10000000) (disch := first | assumption | omega) only [cProgram, F_spec_VarAt, params, EG, EL, ↓reduceIte, Nat.reduceEqDiff, Nat.reduceAdd, Nat.reduceSub, Nat.reduceMul, Nat.reduceLeDiff, Nat.reduceLT, Int.reduceLT, Int.reduceLE, Int.reduceEq, Int.reduceToNat, reduceCtorEq, FB, ED, FT, cx_spec_VarAt, cl_spec_l01In, sem_spec_l01In, cl_spec_l18Vars, hsh, hw, hk, e, decide_true, decide_false, Bool.not_true, Bool.not_false, Bool.true_and, Bool.false_and, Bool.and_true, Bool.and_false, Bool.true_or, Bool.false_or, and_self]
theorem sem_impl_VarAt (p : DProgram) (kk jj : Int) (hM : p.Monitors.length ≤ 1048576) (hP : p.Processes.length ≤ 1048576) (hV : tot nV p.Monitors ≤ 1048576) (hQ : tot nP p.Processes ≤ 4194304) : S_impl_VarAt.sem [.agg (cProgram p), .int .i64 kk, .int .i64 jj] = some (.int .i64 (varAt p kk jj), []) := by
  have loop : ∀ (k n : Nat) (j : Int), k < p.Processes.length → n ≤ 4194304 → loopV X_impl_VarAt 0 [7, 35, 36, 37] [(1, [7])] B0_impl_VarAt ⟨[(7, .int .i64 ((1 + tot nV p.Monitors + n : Nat) : Int)), (35, .tree 4 ((p.Processes.take k).map cProcess)), (36, .int .i64 ((k : Nat) : Int)), (37, .int .i64 0)], []⟩ = some (.exit 0, ⟨[(7, .int .i64 ((1 + tot nV p.Monitors + n + tot nP (p.Processes.take k) : Nat) : Int))], []⟩) := by
    intro k n j hk hn4
    have hlen : (p.Processes.take k).length = k := by rw [List.length_take]; omega
    have htk := @totTake_le _ nP p.Processes k
    refine loop_list (p.Processes.take k) (fun i a => a + tot nP ((p.Processes.take k).drop i) ≤ 16777216) (fun i a => ⟨[(7, .int .i64 ((a : Nat) : Int)), (35, .tree 4 ((p.Processes.take k).map cProcess)), (36, .int .i64 ((k : Nat) : Int)), (37, .int .i64 ((i : Nat) : Int))], []⟩) (fun rest a => some (.exit 0, ⟨[(7, .int .i64 ((a + tot nP rest : Nat) : Int))], []⟩)) ?_ ?_ (1 + tot nV p.Monitors + n) (by rw [List.drop_zero]; omega)
    · intro a _
      rw [loopV_by B0_impl_VarAt.eq_1]
      simp only [hlen, EG, EL, ↓reduceIte, Nat.reduceEqDiff, Nat.reduceAdd, Nat.reduceSub, Nat.reduceMul, Nat.reduceLeDiff, Nat.reduceLT, Int.reduceLT, Int.reduceLE, Int.reduceEq, Int.reduceToNat, reduceCtorEq, FB, int_lt_irrefl, tot, Nat.add_zero]
    · rintro i hi0 y rest a rfl rfl hI ih
      have hi1 : i < k := by omega
      have hi2 : i < p.Processes.length := by omega
      have hi : (i : Int) < ((k : Nat) : Int) := by omega
      have hi' : (i : Int) < (p.Processes.length : Int) := by omega
      rw [tot_drop hi0] at hI
      have hge : (p.Processes.take k)[i] = p.Processes[i] := List.getElem_take
      rw [hge] at hI ⊢
      have hn : nP p.Processes[i] = p.Processes[i].Vars.length + 2 := rfl
      have hw : IntKind.wrap .i64 ((p.Processes[i].Vars.length : Int) + 2) = ((nP p.Processes[i] : Nat) : Int) := by rw [wrapI (by omega) (by omega)]; omega
      have hw2 : IntKind.wrap .i64 ((a : Int) + ((nP p.Processes[i] : Nat) : Int)) = ((a + nP p.Processes[i] : Nat) : Int) := by rw [wrapI (by omega) (by omega)]; omega
      have i1 := ih (a + nP p.Processes[i]) (by omega)
      try simp only [cProgram] at i1
      rw [loopV_by B0_impl_VarAt.eq_1]
      simp (maxSteps := 10000000) (disch := first | assumption | omega) only [cProgram, EG, EL, ↓reduceIte, Nat.reduceEqDiff, Nat.reduceAdd, Nat.reduceSub, Nat.reduceMul, Nat.reduceLeDiff, Nat.reduceLT, Int.reduceLT, Int.reduceLE, Int.reduceEq, Int.reduceToNat, reduceCtorEq, FB, ED, FT, hi, hi', wrap_succ, getRow _ _ hi2, getRow _ _ hi0, hge, hlen, hw, hw2, i1, tot, Nat.add_assoc]
  have hsh := sem_impl_sharedSize p.Monitors hM hV
  have hip := sem_impl_isProcess p kk hP
  have hw : IntKind.wrap .i64 ((p.Processes.length : Int) - 1) = (p.Processes.length : Int) - 1 := wrapI (by omega) (by omega)
  simp only [cProgram] at hip
  rw [sg_impl_VarAt, sem_go]
  by_cases hk : 0 ≤ kk ∧ kk ≤ (p.Processes.length : Int) - 1
  · obtain ⟨k, rfl⟩ : ∃ n : Nat, kk = (n : Int) := ⟨kk.toNat, by omega⟩
    have hkn : k < p.Processes.length := by omega
    have hkn' : (k : Int) < (p.Processes.length : Int) := by omega
    have hkle : (k : Int) ≤ (p.Processes.length : Int) := by omega
    have hlen : (p.Processes.take k).length = k := by rw [List.length_take]; omega
    have hpv := pv_eq hkn
    have htk := @totTake_le _ nP p.Processes k
    have hlp : p.Processes[k].Vars.length + tot nP (p.Processes.take k) ≤ 4194304 := by
      have := @tot_take _ nP p.Processes k hkn
      have : nP p.Processes[k] = p.Processes[k].Vars.length + 2 := rfl
      omega
    by_cases hj : 0 ≤ jj ∧ jj ≤ (p.Processes[k].Vars.length : Int)
    · obtain ⟨n, rfl⟩ : ∃ n : Nat, jj = (n : Int) := ⟨jj.toNat, by omega⟩
      have e : varAt p k n = ((1 + tot nV p.Monitors + tot nP (p.Processes.take k) : Nat) : Int) + n := by
        unfold varAt; rw [Int.toNat_natCast, hpv, if_pos ⟨hk, hj⟩]
      have hf0 : IntKind.wrap .i64 (1 + ((tot nV p.Monitors : Nat) : Int)) = ((1 + tot nV p.Monitors : Nat) : Int) := by rw [wrapI (by omega) (by omega)]; omega
      have hf : IntKind.wrap .i64 (((1 + tot nV p.Monitors : Nat) : Int) + ((n : Nat) : Int)) = ((1 + tot nV p.Monitors + n : Nat) : Int) := by rw [wrapI (by omega) (by omega)]; omega
      have hl := loop k n n hkn (by omega)
      have hre : ((1 + tot nV p.Monitors + n + tot nP (p.Processes.take k) : Nat) : Int) = ((1 + tot nV p.Monitors + tot nP (p.Processes.take k) : Nat) : Int) + (n : Int) := by omega
      try simp only [EG, EL, ↓reduceIte, Nat.reduceEqDiff, Nat.reduceAdd, Nat.reduceSub, Nat.reduceMul, Nat.reduceLeDiff, Nat.reduceLT, Int.reduceLT, Int.reduceLE, Int.reduceEq, Int.reduceToNat, reduceCtorEq, FB, ED, FT] at hl
      simp (maxSteps := 10000000) (disch := first | assumption | omega) only [cProgram, F_impl_VarAt, params, EG, EL, ↓reduceIte, Nat.reduceEqDiff, Nat.reduceAdd, Nat.reduceSub, Nat.reduceMul, Nat.reduceLeDiff, Nat.reduceLT, Int.reduceLT, Int.reduceLE, Int.reduceEq, Int.reduceToNat, reduceCtorEq, FB, ED, FT, cx_impl_VarAt, cl_impl_within, sem_impl_within, cl_impl_isProcess, hip, cl_impl_sharedSize, hsh, hw, hk, hj, hkn', getRow _ _ hkn, hf0, hf, hl, hre, e, seg_take, Nat.sub_zero, Int.toNat_natCast, hkle, hlen, decide_true, decide_false, Bool.not_true, Bool.not_false, Bool.true_and, Bool.false_and, Bool.and_true, Bool.and_false, Bool.true_or, Bool.false_or, and_self]
    · have e : varAt p k jj = -1 := by
        unfold varAt; rw [Int.toNat_natCast, hpv, if_neg (fun h => hj h.2)]
      simp (maxSteps := 10000000) (disch := first | assumption | omega) only [cProgram, F_impl_VarAt, params, EG, EL, ↓reduceIte, Nat.reduceEqDiff, Nat.reduceAdd, Nat.reduceSub, Nat.reduceMul, Nat.reduceLeDiff, Nat.reduceLT, Int.reduceLT, Int.reduceLE, Int.reduceEq, Int.reduceToNat, reduceCtorEq, FB, ED, FT, cx_impl_VarAt, cl_impl_within, sem_impl_within, cl_impl_isProcess, hip, cl_impl_sharedSize, hsh, hw, hk, hj, hkn', getRow _ _ hkn, e, decide_true, decide_false, Bool.not_true, Bool.not_false, Bool.true_and, Bool.false_and, Bool.and_true, Bool.and_false, Bool.true_or, Bool.false_or, and_self]
  · have e : varAt p kk jj = -1 := by
      unfold varAt; rw [if_neg (fun h => hk h.1)]
    simp (maxSteps := 10000000) (disch := first | assumption | omega) only [cProgram, F_impl_VarAt, params, EG, EL, ↓reduceIte, Nat.reduceEqDiff, Nat.reduceAdd, Nat.reduceSub, Nat.reduceMul, Nat.reduceLeDiff, Nat.reduceLT, Int.reduceLT, Int.reduceLE, Int.reduceEq, Int.reduceToNat, reduceCtorEq, FB, ED, FT, cx_impl_VarAt, cl_impl_within, sem_impl_within, cl_impl_isProcess, hip, cl_impl_sharedSize, hsh, hw, hk, e, decide_true, decide_false, Bool.not_true, Bool.not_false, Bool.true_and, Bool.false_and, Bool.and_true, Bool.and_false, Bool.true_or, Bool.false_or, and_self]
def atsF (p : DProgram) (k : Int) : List ByteArray → Nat → List Int
  | [], _ => []
  | _ :: r, i => varAt p k i :: atsF p k r (i + 1)
def varsOf (p : DProgram) (k : Nat) : List ByteArray := match p.Processes[k]? with | some q => q.Vars | none => []
theorem varsOf_eq {p : DProgram} {k : Nat} (h : k < p.Processes.length) : varsOf p k = p.Processes[k].Vars := by simp [varsOf, h]
def ownPlaces (p : DProgram) (k : Int) : DPlaces := if 0 ≤ k ∧ k ≤ (p.Processes.length : Int) - 1 then ⟨varsOf p k.toNat, atsF p k (varsOf p k.toNat) 0⟩ else ⟨[], []⟩
theorem atsF_len {p : DProgram} {k : Int} : ∀ {xs : List ByteArray} {i : Nat}, (atsF p k xs i).length = xs.length
  | [], _ => rfl
  | x :: xs, i => by simp only [atsF, List.length_cons, @atsF_len p k xs (i + 1)]
theorem ownPlaces_wt {p : DProgram} {k : Int} : wtPlaces (ownPlaces p k) ≤ 2 * tot wtProcess p.Processes := by
  unfold ownPlaces
  split
  · simp only [wtPlaces, atsF_len]
    unfold varsOf
    cases h : p.Processes[k.toNat]? with
    | none => simp [tot]
    | some q =>
      have := le_tot wtProcess (List.mem_of_getElem? h)
      simp only [wtProcess] at this
      simp only; omega
  · simp [wtPlaces, tot]
def mv (p : DProgram) (k : Nat) : Nat := match p.Monitors[k]? with | some q => q.Vars.length | none => 0
theorem mv_eq {p : DProgram} {k : Nat} (h : k < p.Monitors.length) : mv p k = p.Monitors[k].Vars.length := by simp [mv, h]
def sharedAt (p : DProgram) (k i : Int) : Int := if (0 ≤ k ∧ k ≤ (p.Monitors.length : Int) - 1) ∧ (0 ≤ i ∧ i ≤ (mv p k.toNat : Int) - 1) then ((1 + tot nV (p.Monitors.take k.toNat) : Nat) : Int) + i else -1
def argAt (p : DProgram) (k : Int) : Int := if 0 ≤ k ∧ k ≤ (p.Processes.length : Int) - 1 then varAt p k (pv p k.toNat) else -1
def resultAt (p : DProgram) (k : Int) : Int := if argAt p k < 0 then -1 else IntKind.wrap .i64 (argAt p k + 1)
theorem nV_lt {p : DProgram} {k : Nat} (h : k < p.Monitors.length) : p.Monitors[k].Vars.length + tot nV (p.Monitors.take k) ≤ tot nV p.Monitors := by
  have := @tot_take _ nV p.Monitors k h
  have : nV p.Monitors[k] = p.Monitors[k].Vars.length := rfl
  omega
theorem sem_impl_isMonitor (p : DProgram) (k : Int) (hP : p.Monitors.length ≤ 1048576) : S_impl_isMonitor.sem [.agg (cProgram p), .int .i64 k] = some (.bool (decide (0 ≤ k ∧ k ≤ (p.Monitors.length : Int) - 1)), []) := by
  have hw : IntKind.wrap .i64 ((p.Monitors.length : Int) - 1) = (p.Monitors.length : Int) - 1 := wrapI (by omega) (by omega)
  rw [sg_impl_isMonitor, sem_go]
  simp (maxSteps := 10000000) (disch := first | assumption | omega) only [cProgram, F_impl_isMonitor, params, EG, EL, ↓reduceIte, Nat.reduceEqDiff, Nat.reduceAdd, Nat.reduceSub, Nat.reduceMul, Nat.reduceLeDiff, Nat.reduceLT, Int.reduceLT, Int.reduceLE, Int.reduceEq, Int.reduceToNat, reduceCtorEq, FB, cx_impl_isMonitor, cl_impl_within, sem_impl_within, hw]
theorem sem_spec_ArgAt (p : DProgram) (k : Int) (hM : p.Monitors.length ≤ 1048576) (hP : p.Processes.length ≤ 1048576) (hV : tot nV p.Monitors ≤ 1048576) (hQ : tot nP p.Processes ≤ 4194304) : S_spec_ArgAt.sem [.agg (cProgram p), .int .i64 k] = some (.int .i64 (argAt p k), []) := by
  have hw : IntKind.wrap .i64 ((p.Processes.length : Int) - 1) = (p.Processes.length : Int) - 1 := wrapI (by omega) (by omega)
  rw [sg_spec_ArgAt, sem_go]
  by_cases hk : 0 ≤ k ∧ k ≤ (p.Processes.length : Int) - 1
  · obtain ⟨n, rfl⟩ : ∃ n : Nat, k = (n : Int) := ⟨k.toNat, by omega⟩
    have hkn : n < p.Processes.length := by omega
    have hkn' : (n : Int) < (p.Processes.length : Int) := by omega
    have hva := sem_spec_VarAt p n (pv p n) hM hP hV hQ
    have e : argAt p n = varAt p n (pv p n) := by unfold argAt; rw [if_pos hk, Int.toNat_natCast]
    rw [e]
    generalize varAt p n (pv p n) = v at hva
    rw [pv_eq hkn] at hva
    simp only [cProgram] at hva
    simp (maxSteps := 10000000) (disch := first | assumption | omega) only [cProgram, F_spec_ArgAt, params, EG, EL, ↓reduceIte, Nat.reduceEqDiff, Nat.reduceAdd, Nat.reduceSub, Nat.reduceMul, Nat.reduceLeDiff, Nat.reduceLT, Int.reduceLT, Int.reduceLE, Int.reduceEq, Int.reduceToNat, reduceCtorEq, FB, ED, FT, cx_spec_ArgAt, cl_spec_l01In, sem_spec_l01In, cl_spec_VarAt, hva, hw, hk, hkn', getRow _ _ hkn, decide_true, decide_false, Bool.not_true, Bool.not_false, Bool.true_and, Bool.false_and, Bool.and_true, Bool.and_false, Bool.true_or, Bool.false_or, and_self]
  · have e : argAt p k = -1 := by unfold argAt; rw [if_neg hk]
    rw [e]
    simp (maxSteps := 10000000) (disch := first | assumption | omega) only [cProgram, F_spec_ArgAt, params, EG, EL, ↓reduceIte, Nat.reduceEqDiff, Nat.reduceAdd, Nat.reduceSub, Nat.reduceMul, Nat.reduceLeDiff, Nat.reduceLT, Int.reduceLT, Int.reduceLE, Int.reduceEq, Int.reduceToNat, reduceCtorEq, FB, ED, FT, cx_spec_ArgAt, cl_spec_l01In, sem_spec_l01In, hw, hk, decide_true, decide_false, Bool.not_true, Bool.not_false, Bool.true_and, Bool.false_and, Bool.and_true, Bool.and_false, Bool.true_or, Bool.false_or, and_self]
theorem sem_spec_ResultAt (p : DProgram) (k : Int) (hM : p.Monitors.length ≤ 1048576) (hP : p.Processes.length ≤ 1048576) (hV : tot nV p.Monitors ≤ 1048576) (hQ : tot nP p.Processes ≤ 4194304) : S_spec_ResultAt.sem [.agg (cProgram p), .int .i64 k] = some (.int .i64 (resultAt p k), []) := by
  have ha := sem_spec_ArgAt p k hM hP hV hQ
  rw [sg_spec_ResultAt, sem_go]
  unfold resultAt
  generalize argAt p k = v at ha
  simp only [cProgram] at ha
  by_cases hv : v < 0
  all_goals simp (maxSteps := 10000000) (disch := first | assumption | omega) only [cProgram, F_spec_ResultAt, params, EG, EL, ↓reduceIte, Nat.reduceEqDiff, Nat.reduceAdd, Nat.reduceSub, Nat.reduceMul, Nat.reduceLeDiff, Nat.reduceLT, Int.reduceLT, Int.reduceLE, Int.reduceEq, Int.reduceToNat, reduceCtorEq, FB, ED, FT, cx_spec_ResultAt, cl_spec_ArgAt, ha, hv]
theorem sem_spec_SharedAt (p : DProgram) (kk jj : Int) (hM : p.Monitors.length ≤ 1048576) (hV : tot nV p.Monitors ≤ 1048576) : S_spec_SharedAt.sem [.agg (cProgram p), .int .i64 kk, .int .i64 jj] = some (.int .i64 (sharedAt p kk jj), []) := by
  have loop : ∀ (k : Nat) (j : Int), k < p.Monitors.length → loopV X_spec_SharedAt 0 [1, 2, 3, 7, 8] [(1, [2, 7])] B0_spec_SharedAt ⟨[(1, .int .i64 ((k : Nat) : Int)), (2, .int .i64 j), (3, .ptr ⟨0, none, 0⟩ 3 0 0), (7, .int .i64 1), (8, .int .i64 0)], [some ⟨true, 0, 3, [cProgram p]⟩]⟩ = some (.exit 0, ⟨[(2, .int .i64 j), (7, .int .i64 ((1 + tot nV (p.Monitors.take k) : Nat) : Int))], []⟩) := by
    intro k j hk
    have hlen : (p.Monitors.take k).length = k := by rw [List.length_take]; omega
    have htk := @totTake_le _ nV p.Monitors k
    refine loop_list (p.Monitors.take k) (fun i a => a + tot nV ((p.Monitors.take k).drop i) ≤ 16777216) (fun i a => ⟨[(1, .int .i64 ((k : Nat) : Int)), (2, .int .i64 j), (3, .ptr ⟨0, none, 0⟩ 3 0 0), (7, .int .i64 ((a : Nat) : Int)), (8, .int .i64 ((i : Nat) : Int))], [some ⟨true, 0, 3, [cProgram p]⟩]⟩) (fun rest a => some (.exit 0, ⟨[(2, .int .i64 j), (7, .int .i64 ((a + tot nV rest : Nat) : Int))], []⟩)) ?_ ?_ 1 (by rw [List.drop_zero]; omega)
    · intro a _
      rw [loopV_by B0_spec_SharedAt.eq_1]
      simp only [hlen, EG, EL, ↓reduceIte, Nat.reduceEqDiff, Nat.reduceAdd, Nat.reduceSub, Nat.reduceMul, Nat.reduceLeDiff, Nat.reduceLT, Int.reduceLT, Int.reduceLE, Int.reduceEq, Int.reduceToNat, reduceCtorEq, FB, int_lt_irrefl, tot, Nat.add_zero]
    · rintro i hi0 y rest a rfl rfl hI ih
      have hi1 : i < k := by omega
      have hi2 : i < p.Monitors.length := by omega
      have hi : (i : Int) < ((k : Nat) : Int) := by omega
      have hi' : (i : Int) < (p.Monitors.length : Int) := by omega
      rw [tot_drop hi0] at hI
      have hge : (p.Monitors.take k)[i] = p.Monitors[i] := List.getElem_take
      rw [hge] at hI ⊢
      have hn : nV p.Monitors[i] = p.Monitors[i].Vars.length := rfl
      have hw : IntKind.wrap .i64 ((a : Int) + (p.Monitors[i].Vars.length : Int)) = ((a + nV p.Monitors[i] : Nat) : Int) := by rw [wrapI (by omega) (by omega)]; omega
      have i1 := ih (a + nV p.Monitors[i]) (by omega)
      simp only [cProgram] at i1
      rw [loopV_by B0_spec_SharedAt.eq_1]
      simp (maxSteps := 10000000) (disch := first | assumption | omega) only [cProgram, EG, EL, ↓reduceIte, Nat.reduceEqDiff, Nat.reduceAdd, Nat.reduceSub, Nat.reduceMul, Nat.reduceLeDiff, Nat.reduceLT, Int.reduceLT, Int.reduceLE, Int.reduceEq, Int.reduceToNat, reduceCtorEq, FB, ED, FT, hi, hi', wrap_succ, getRow _ _ hi2, hw, i1, tot, Nat.add_assoc]
  simp only [cProgram] at loop
  have hw : IntKind.wrap .i64 ((p.Monitors.length : Int) - 1) = (p.Monitors.length : Int) - 1 := wrapI (by omega) (by omega)
  rw [sg_spec_SharedAt, sem_go]
  by_cases hk : 0 ≤ kk ∧ kk ≤ (p.Monitors.length : Int) - 1
  · obtain ⟨k, rfl⟩ : ∃ n : Nat, kk = (n : Int) := ⟨kk.toNat, by omega⟩
    have hkn : k < p.Monitors.length := by omega
    have hkn' : (k : Int) < (p.Monitors.length : Int) := by omega
    have hkle : (k : Int) ≤ (p.Monitors.length : Int) := by omega
    have hlen : (p.Monitors.take k).length = k := by rw [List.length_take]; omega
    have hpv := mv_eq hkn
    have hlp := nV_lt hkn
    have hwv : IntKind.wrap .i64 ((p.Monitors[k].Vars.length : Int) - 1) = (p.Monitors[k].Vars.length : Int) - 1 := wrapI (by omega) (by omega)
    by_cases hj : 0 ≤ jj ∧ jj ≤ (p.Monitors[k].Vars.length : Int) - 1
    · obtain ⟨n, rfl⟩ : ∃ n : Nat, jj = (n : Int) := ⟨jj.toNat, by omega⟩
      have e : sharedAt p k n = ((1 + tot nV (p.Monitors.take k) : Nat) : Int) + n := by
        unfold sharedAt; rw [Int.toNat_natCast, hpv, if_pos ⟨hk, hj⟩]
      have hf0 : IntKind.wrap .i64 (1 + ((tot nV (p.Monitors.take k) : Nat) : Int)) = ((1 + tot nV (p.Monitors.take k) : Nat) : Int) := by rw [wrapI (by omega) (by omega)]; omega
      have hf : IntKind.wrap .i64 (((1 + tot nV (p.Monitors.take k) : Nat) : Int) + (n : Int)) = ((1 + tot nV (p.Monitors.take k) : Nat) : Int) + (n : Int) := wrapI (by omega) (by omega)
      have hl := loop k n hkn
      simp (maxSteps := 10000000) (disch := first | assumption | omega) only [cProgram, F_spec_SharedAt, params, EG, EL, ↓reduceIte, Nat.reduceEqDiff, Nat.reduceAdd, Nat.reduceSub, Nat.reduceMul, Nat.reduceLeDiff, Nat.reduceLT, Int.reduceLT, Int.reduceLE, Int.reduceEq, Int.reduceToNat, reduceCtorEq, FB, ED, FT, cx_spec_SharedAt, cl_spec_l01In, sem_spec_l01In, hl, hw, hwv, hk, hj, hkn', hkle, hlen, getRow _ _ hkn, hf0, hf, hl, e, seg_take, Nat.sub_zero, Int.toNat_natCast, decide_true, decide_false, Bool.not_true, Bool.not_false, Bool.true_and, Bool.false_and, Bool.and_true, Bool.and_false, Bool.true_or, Bool.false_or, and_self]
    · have e : sharedAt p k jj = -1 := by
        unfold sharedAt; rw [Int.toNat_natCast, hpv, if_neg (fun h => hj h.2)]
      simp (maxSteps := 10000000) (disch := first | assumption | omega) only [cProgram, F_spec_SharedAt, params, EG, EL, ↓reduceIte, Nat.reduceEqDiff, Nat.reduceAdd, Nat.reduceSub, Nat.reduceMul, Nat.reduceLeDiff, Nat.reduceLT, Int.reduceLT, Int.reduceLE, Int.reduceEq, Int.reduceToNat, reduceCtorEq, FB, ED, FT, cx_spec_SharedAt, cl_spec_l01In, sem_spec_l01In, hw, hwv, hk, hj, hkn', getRow _ _ hkn, e, decide_true, decide_false, Bool.not_true, Bool.not_false, Bool.true_and, Bool.false_and, Bool.and_true, Bool.and_false, Bool.true_or, Bool.false_or, and_self]
  · have e : sharedAt p kk jj = -1 := by
      unfold sharedAt; rw [if_neg (fun h => hk h.1)]
    simp (maxSteps := 10000000) (disch := first | assumption | omega) only [cProgram, F_spec_SharedAt, params, EG, EL, ↓reduceIte, Nat.reduceEqDiff, Nat.reduceAdd, Nat.reduceSub, Nat.reduceMul, Nat.reduceLeDiff, Nat.reduceLT, Int.reduceLT, Int.reduceLE, Int.reduceEq, Int.reduceToNat, reduceCtorEq, FB, ED, FT, cx_spec_SharedAt, cl_spec_l01In, sem_spec_l01In, hw, hk, e, decide_true, decide_false, Bool.not_true, Bool.not_false, Bool.true_and, Bool.false_and, Bool.and_true, Bool.and_false, Bool.true_or, Bool.false_or, and_self]
theorem sem_impl_ArgAt (p : DProgram) (k : Int) (hM : p.Monitors.length ≤ 1048576) (hP : p.Processes.length ≤ 1048576) (hV : tot nV p.Monitors ≤ 1048576) (hQ : tot nP p.Processes ≤ 4194304) : S_impl_ArgAt.sem [.agg (cProgram p), .int .i64 k] = some (.int .i64 (argAt p k), []) := by
  have hw : IntKind.wrap .i64 ((p.Processes.length : Int) - 1) = (p.Processes.length : Int) - 1 := wrapI (by omega) (by omega)
  have hip := sem_impl_isProcess p k hP
  simp only [cProgram] at hip
  rw [sg_impl_ArgAt, sem_go]
  by_cases hk : 0 ≤ k ∧ k ≤ (p.Processes.length : Int) - 1
  · obtain ⟨n, rfl⟩ : ∃ n : Nat, k = (n : Int) := ⟨k.toNat, by omega⟩
    have hkn : n < p.Processes.length := by omega
    have hkn' : (n : Int) < (p.Processes.length : Int) := by omega
    have hva := sem_impl_VarAt p n (pv p n) hM hP hV hQ
    have e : argAt p n = varAt p n (pv p n) := by unfold argAt; rw [if_pos hk, Int.toNat_natCast]
    rw [e]
    generalize varAt p n (pv p n) = v at hva
    rw [pv_eq hkn] at hva
    simp only [cProgram] at hva
    simp (maxSteps := 10000000) (disch := first | assumption | omega) only [cProgram, F_impl_ArgAt, params, EG, EL, ↓reduceIte, Nat.reduceEqDiff, Nat.reduceAdd, Nat.reduceSub, Nat.reduceMul, Nat.reduceLeDiff, Nat.reduceLT, Int.reduceLT, Int.reduceLE, Int.reduceEq, Int.reduceToNat, reduceCtorEq, FB, ED, FT, cx_impl_ArgAt, cl_impl_isProcess, hip, cl_impl_within, sem_impl_within, cl_impl_VarAt, hva, hw, hk, hkn', getRow _ _ hkn, decide_true, decide_false, Bool.not_true, Bool.not_false, Bool.true_and, Bool.false_and, Bool.and_true, Bool.and_false, Bool.true_or, Bool.false_or, and_self]
  · have e : argAt p k = -1 := by unfold argAt; rw [if_neg hk]
    rw [e]
    simp (maxSteps := 10000000) (disch := first | assumption | omega) only [cProgram, F_impl_ArgAt, params, EG, EL, ↓reduceIte, Nat.reduceEqDiff, Nat.reduceAdd, Nat.reduceSub, Nat.reduceMul, Nat.reduceLeDiff, Nat.reduceLT, Int.reduceLT, Int.reduceLE, Int.reduceEq, Int.reduceToNat, reduceCtorEq, FB, ED, FT, cx_impl_ArgAt, cl_impl_isProcess, hip, cl_impl_within, sem_impl_within, hw, hk, decide_true, decide_false, Bool.not_true, Bool.not_false, Bool.true_and, Bool.false_and, Bool.and_true, Bool.and_false, Bool.true_or, Bool.false_or, and_self]
theorem sem_impl_ResultAt (p : DProgram) (k : Int) (hM : p.Monitors.length ≤ 1048576) (hP : p.Processes.length ≤ 1048576) (hV : tot nV p.Monitors ≤ 1048576) (hQ : tot nP p.Processes ≤ 4194304) : S_impl_ResultAt.sem [.agg (cProgram p), .int .i64 k] = some (.int .i64 (resultAt p k), []) := by
  have ha := sem_impl_ArgAt p k hM hP hV hQ
  rw [sg_impl_ResultAt, sem_go]
  unfold resultAt
  generalize argAt p k = v at ha
  simp only [cProgram] at ha
  by_cases hv : v < 0
  all_goals simp (maxSteps := 10000000) (disch := first | assumption | omega) only [cProgram, F_impl_ResultAt, params, EG, EL, ↓reduceIte, Nat.reduceEqDiff, Nat.reduceAdd, Nat.reduceSub, Nat.reduceMul, Nat.reduceLeDiff, Nat.reduceLT, Int.reduceLT, Int.reduceLE, Int.reduceEq, Int.reduceToNat, reduceCtorEq, FB, ED, FT, cx_impl_ResultAt, cl_impl_ArgAt, ha, hv]
theorem sem_impl_SharedAt (p : DProgram) (kk jj : Int) (hM : p.Monitors.length ≤ 1048576) (hV : tot nV p.Monitors ≤ 1048576) : S_impl_SharedAt.sem [.agg (cProgram p), .int .i64 kk, .int .i64 jj] = some (.int .i64 (sharedAt p kk jj), []) := by
  have him := sem_impl_isMonitor p kk hM
  simp only [cProgram] at him
  have hw : IntKind.wrap .i64 ((p.Monitors.length : Int) - 1) = (p.Monitors.length : Int) - 1 := wrapI (by omega) (by omega)
  rw [sg_impl_SharedAt, sem_go]
  by_cases hk : 0 ≤ kk ∧ kk ≤ (p.Monitors.length : Int) - 1
  · obtain ⟨k, rfl⟩ : ∃ n : Nat, kk = (n : Int) := ⟨kk.toNat, by omega⟩
    have hkn : k < p.Monitors.length := by omega
    have hkn' : (k : Int) < (p.Monitors.length : Int) := by omega
    have hkle : (k : Int) ≤ (p.Monitors.length : Int) := by omega
    have hlen : (p.Monitors.take k).length = k := by rw [List.length_take]; omega
    have hpv := mv_eq hkn
    have hlp := nV_lt hkn
    have hwv : IntKind.wrap .i64 ((p.Monitors[k].Vars.length : Int) - 1) = (p.Monitors[k].Vars.length : Int) - 1 := wrapI (by omega) (by omega)
    by_cases hj : 0 ≤ jj ∧ jj ≤ (p.Monitors[k].Vars.length : Int) - 1
    · obtain ⟨n, rfl⟩ : ∃ n : Nat, jj = (n : Int) := ⟨jj.toNat, by omega⟩
      have e : sharedAt p k n = ((1 + tot nV (p.Monitors.take k) : Nat) : Int) + n := by
        unfold sharedAt; rw [Int.toNat_natCast, hpv, if_pos ⟨hk, hj⟩]
      have hf0 : IntKind.wrap .i64 (1 + ((tot nV (p.Monitors.take k) : Nat) : Int)) = ((1 + tot nV (p.Monitors.take k) : Nat) : Int) := by rw [wrapI (by omega) (by omega)]; omega
      have hf : IntKind.wrap .i64 (((1 + tot nV (p.Monitors.take k) : Nat) : Int) + (n : Int)) = ((1 + tot nV (p.Monitors.take k) : Nat) : Int) + (n : Int) := wrapI (by omega) (by omega)
      have hl := sem_impl_sharedSize (p.Monitors.take k) (by omega) (by have := @totTake_le _ nV p.Monitors k; omega)
      simp (maxSteps := 10000000) (disch := first | assumption | omega) only [cProgram, F_impl_SharedAt, params, EG, EL, ↓reduceIte, Nat.reduceEqDiff, Nat.reduceAdd, Nat.reduceSub, Nat.reduceMul, Nat.reduceLeDiff, Nat.reduceLT, Int.reduceLT, Int.reduceLE, Int.reduceEq, Int.reduceToNat, reduceCtorEq, FB, ED, FT, cx_impl_SharedAt, cl_impl_within, sem_impl_within, cl_impl_isMonitor, him, cl_impl_sharedSize, hw, hwv, hk, hj, hkn', hkle, hlen, getRow _ _ hkn, hf0, hf, hl, e, seg_take, Nat.sub_zero, Int.toNat_natCast, decide_true, decide_false, Bool.not_true, Bool.not_false, Bool.true_and, Bool.false_and, Bool.and_true, Bool.and_false, Bool.true_or, Bool.false_or, and_self]
    · have e : sharedAt p k jj = -1 := by
        unfold sharedAt; rw [Int.toNat_natCast, hpv, if_neg (fun h => hj h.2)]
      simp (maxSteps := 10000000) (disch := first | assumption | omega) only [cProgram, F_impl_SharedAt, params, EG, EL, ↓reduceIte, Nat.reduceEqDiff, Nat.reduceAdd, Nat.reduceSub, Nat.reduceMul, Nat.reduceLeDiff, Nat.reduceLT, Int.reduceLT, Int.reduceLE, Int.reduceEq, Int.reduceToNat, reduceCtorEq, FB, ED, FT, cx_impl_SharedAt, cl_impl_within, sem_impl_within, cl_impl_isMonitor, him, hw, hwv, hk, hj, hkn', getRow _ _ hkn, e, decide_true, decide_false, Bool.not_true, Bool.not_false, Bool.true_and, Bool.false_and, Bool.and_true, Bool.and_false, Bool.true_or, Bool.false_or, and_self]
  · have e : sharedAt p kk jj = -1 := by
      unfold sharedAt; rw [if_neg (fun h => hk h.1)]
    simp (maxSteps := 10000000) (disch := first | assumption | omega) only [cProgram, F_impl_SharedAt, params, EG, EL, ↓reduceIte, Nat.reduceEqDiff, Nat.reduceAdd, Nat.reduceSub, Nat.reduceMul, Nat.reduceLeDiff, Nat.reduceLT, Int.reduceLT, Int.reduceLE, Int.reduceEq, Int.reduceToNat, reduceCtorEq, FB, ED, FT, cx_impl_SharedAt, cl_impl_within, sem_impl_within, cl_impl_isMonitor, him, hw, hk, e, decide_true, decide_false, Bool.not_true, Bool.not_false, Bool.true_and, Bool.false_and, Bool.and_true, Bool.and_false, Bool.true_or, Bool.false_or, and_self]
def satsF (p : DProgram) (m : Int) : List ByteArray → Nat → List Int
  | [], _ => []
  | _ :: r, i => sharedAt p m i :: satsF p m r (i + 1)
def mvars (p : DProgram) (m : Nat) : List ByteArray := match p.Monitors[m]? with | some q => q.Vars | none => []
def ents (p : DProgram) (m : Nat) : List DEntry := match p.Monitors[m]? with | some q => q.Entries | none => []
def paramOf (p : DProgram) (m n : Nat) : ByteArray := match (ents p m)[n]? with | some q => q.Param | none => ⟨#[]⟩
theorem mvars_eq {p : DProgram} {m : Nat} (h : m < p.Monitors.length) : mvars p m = p.Monitors[m].Vars := by simp [mvars, h]
theorem ents_eq {p : DProgram} {m : Nat} (h : m < p.Monitors.length) : ents p m = p.Monitors[m].Entries := by simp [ents, h]
theorem param_eq {p : DProgram} {m n : Nat} (h : m < p.Monitors.length) (h2 : n < p.Monitors[m].Entries.length) : paramOf p m n = p.Monitors[m].Entries[n].Param := by
  unfold paramOf; rw [ents_eq h]; simp [h2]
def resB : ByteArray := ⟨#[114, 101, 115, 117, 108, 116]⟩
def entryPlaces (p : DProgram) (k m n : Int) : DPlaces :=
  if (0 ≤ k ∧ k ≤ (p.Processes.length : Int) - 1) ∧ (0 ≤ m ∧ m ≤ (p.Monitors.length : Int) - 1) ∧ (0 ≤ n ∧ n ≤ ((ents p m.toNat).length : Int) - 1) then ⟨[paramOf p m.toNat n.toNat, resB] ++ mvars p m.toNat, [argAt p k, resultAt p k] ++ satsF p m (mvars p m.toNat) 0⟩ else ⟨[], []⟩
theorem satsF_len {p : DProgram} {k : Int} : ∀ {xs : List ByteArray} {i : Nat}, (satsF p k xs i).length = xs.length
  | [], _ => rfl
  | x :: xs, i => by simp only [satsF, List.length_cons, @satsF_len p k xs (i + 1)]
theorem entryPlaces_wt {p : DProgram} {k m n : Int} : wtPlaces (entryPlaces p k m n) ≤ 3 * tot wtMonitor p.Monitors + 100 := by
  unfold entryPlaces
  split
  · simp only [wtPlaces, List.length_append, satsF_len, List.length_cons, List.length_nil, List.cons_append, List.nil_append, tot]
    have hr : wtS resB = 6 := rfl
    unfold paramOf mvars ents
    cases h : p.Monitors[m.toNat]? with
    | none => simp [tot, wtS] at *; omega
    | some q =>
      have h1 := le_tot wtMonitor (List.mem_of_getElem? h)
      simp only [wtMonitor] at h1
      simp only
      cases h2 : q.Entries[n.toNat]? with
      | none =>
        have : wtS (⟨#[]⟩ : ByteArray) = 0 := rfl
        simp only; omega
      | some e =>
        have h3 := le_tot wtEntry (List.mem_of_getElem? h2)
        simp only [wtEntry] at h3
        have : wtS e.Param = e.Param.size := rfl
        simp only; omega
  · simp [wtPlaces, tot]
set_option maxHeartbeats 4000000 in
theorem sem_spec_EntryPlaces (p : DProgram) (kk mm nn : Int) (hM : p.Monitors.length ≤ 1048576) (hP : p.Processes.length ≤ 1048576) (hV : tot nV p.Monitors ≤ 1048576) (hQ : tot nP p.Processes ≤ 4194304) (hE : ∀ y ∈ p.Monitors, y.Entries.length ≤ 1048576) : S_spec_EntryPlaces.sem [.agg (cProgram p), .int .i64 kk, .int .i64 mm, .int .i64 nn] = some (.agg (cPlaces (entryPlaces p kk mm nn)), []) := by
  have loop : ∀ (m : Nat) (hk : m < p.Monitors.length) (n0 : List ByteArray) (a0 : List Int), n0.length = 2 → a0.length = 2 → loopV X_spec_EntryPlaces 0 [2, 4, 8, 9, 10] [(1, [8, 9])] B0_spec_EntryPlaces ⟨[(2, .int .i64 ((m : Nat) : Int)), (4, .ptr ⟨0, none, 0⟩ 3 0 0), (8, .ptr ⟨1, none, 0⟩ 2 0 0), (9, .ptr ⟨4, none, 0⟩ 2 0 0), (10, .int .i64 0)], [some ⟨true, 0, 3, [cProgram p]⟩, some ⟨true, 0, 2, [[.sl ⟨2, none, 0⟩ 1 0 0, .sl ⟨3, none, 0⟩ 1 0 0]]⟩, some ⟨false, 0, 1, []⟩, some ⟨false, 0, 1, []⟩, some ⟨true, 0, 2, [[.sl ⟨5, none, 0⟩ 1 0 n0.length, .sl ⟨6, none, 0⟩ 1 0 a0.length]]⟩, some ⟨false, 0, 1, n0.map cS⟩, some ⟨false, 0, 1, a0.map cI⟩]⟩ = some (.exit 0, ⟨[(8, .ptr ⟨0, none, 0⟩ 2 0 0), (9, .ptr ⟨3, none, 0⟩ 2 0 0)], [some ⟨true, 0, 2, [[.sl ⟨1, none, 0⟩ 1 0 0, .sl ⟨2, none, 0⟩ 1 0 0]]⟩, some ⟨false, 0, 1, []⟩, some ⟨false, 0, 1, []⟩, some ⟨true, 0, 2, [[.sl ⟨4, none, 0⟩ 1 0 (n0 ++ p.Monitors[m].Vars).length, .sl ⟨5, none, 0⟩ 1 0 (a0 ++ satsF p m p.Monitors[m].Vars 0).length]]⟩, some ⟨false, 0, 1, (n0 ++ p.Monitors[m].Vars).map cS⟩, some ⟨false, 0, 1, (a0 ++ satsF p m p.Monitors[m].Vars 0).map cI⟩]⟩) := by
    intro m hk n0 a0 hn0 ha0
    have hk' : (m : Int) < (p.Monitors.length : Int) := by omega
    have hlp := nV_lt hk
    rw [show satsF p m p.Monitors[m].Vars 0 = satsF p m p.Monitors[m].Vars (n0.length - 2) by rw [hn0]]
    refine loop_list p.Monitors[m].Vars (fun i (a : List ByteArray × List Int) => a.1.length = i + 2 ∧ a.2.length = i + 2) (fun i a => ⟨[(2, .int .i64 ((m : Nat) : Int)), (4, .ptr ⟨0, none, 0⟩ 3 0 0), (8, .ptr ⟨1, none, 0⟩ 2 0 0), (9, .ptr ⟨4, none, 0⟩ 2 0 0), (10, .int .i64 ((i : Nat) : Int))], [some ⟨true, 0, 3, [cProgram p]⟩, some ⟨true, 0, 2, [[.sl ⟨2, none, 0⟩ 1 0 0, .sl ⟨3, none, 0⟩ 1 0 0]]⟩, some ⟨false, 0, 1, []⟩, some ⟨false, 0, 1, []⟩, some ⟨true, 0, 2, [[.sl ⟨5, none, 0⟩ 1 0 a.1.length, .sl ⟨6, none, 0⟩ 1 0 a.2.length]]⟩, some ⟨false, 0, 1, a.1.map cS⟩, some ⟨false, 0, 1, a.2.map cI⟩]⟩) (fun rest a => some (.exit 0, ⟨[(8, .ptr ⟨0, none, 0⟩ 2 0 0), (9, .ptr ⟨3, none, 0⟩ 2 0 0)], [some ⟨true, 0, 2, [[.sl ⟨1, none, 0⟩ 1 0 0, .sl ⟨2, none, 0⟩ 1 0 0]]⟩, some ⟨false, 0, 1, []⟩, some ⟨false, 0, 1, []⟩, some ⟨true, 0, 2, [[.sl ⟨4, none, 0⟩ 1 0 (a.1 ++ rest).length, .sl ⟨5, none, 0⟩ 1 0 (a.2 ++ satsF p m rest (a.1.length - 2)).length]]⟩, some ⟨false, 0, 1, (a.1 ++ rest).map cS⟩, some ⟨false, 0, 1, (a.2 ++ satsF p m rest (a.1.length - 2)).map cI⟩]⟩)) ?_ ?_ (n0, a0) ⟨hn0, ha0⟩
    · rintro ⟨ns, as2⟩ _
      rw [loopV_by B0_spec_EntryPlaces.eq_1]
      simp only [cProgram, EG, EL, ↓reduceIte, Nat.reduceEqDiff, Nat.reduceAdd, Nat.reduceSub, Nat.reduceMul, Nat.reduceLeDiff, Nat.reduceLT, Int.reduceLT, Int.reduceLE, Int.reduceEq, Int.reduceToNat, reduceCtorEq, FB, hk', getRow _ _ hk, int_lt_irrefl, satsF, List.append_nil]
    · rintro i hi0 y rest ⟨ns, as2⟩ rfl rfl ⟨h1, h2⟩ ih
      simp only at h1 h2
      have hi : ((i : Nat) : Int) < (p.Monitors[m].Vars.length : Int) := by omega
      have hc1 : (ns.length + 1) * 16 ≤ 70368744177664 := by omega
      have hc2 : (as2.length + 1) * 8 ≤ 70368744177664 := by omega
      have hva := sem_spec_SharedAt p m ((i : Nat) : Int) hM hV
      have i1 := ih (ns ++ [p.Monitors[m].Vars[i]], as2 ++ [sharedAt p m i]) (by simp; omega)
      have hx1 : (ns ++ [p.Monitors[m].Vars[i]]).length - 2 = i + 1 := by simp; omega
      have hx2 : ns.length - 2 = i := by omega
      simp only [hx1] at i1
      simp only [hx2]
      generalize hg : sharedAt p m i = v at i1 hva
      simp only [cProgram, EG, EL, ↓reduceIte, Nat.reduceEqDiff, Nat.reduceAdd, Nat.reduceSub, Nat.reduceMul, Nat.reduceLeDiff, Nat.reduceLT, Int.reduceLT, Int.reduceLE, Int.reduceEq, Int.reduceToNat, reduceCtorEq, FB, List.length_append, List.length_cons, List.length_nil, List.map_append, List.map_cons, List.map_nil, cI, cS, List.cons_append, List.nil_append, List.append_assoc, Nat.add_assoc, Nat.add_comm 1] at i1
      simp only [cProgram] at hva
      rw [loopV_by B0_spec_EntryPlaces.eq_1]
      simp (maxSteps := 10000000) (disch := first | assumption | omega) only [cProgram, EG, EL, ↓reduceIte, Nat.reduceEqDiff, Nat.reduceAdd, Nat.reduceSub, Nat.reduceMul, Nat.reduceLeDiff, Nat.reduceLT, Int.reduceLT, Int.reduceLE, Int.reduceEq, Int.reduceToNat, reduceCtorEq, FB, ED, FT, hk', hi, wrap_succ, getRow _ _ hk, getRow _ _ hi0, hc1, hc2, cx_spec_EntryPlaces, cl_spec_SharedAt, hva]
      try simp only [EG, EL, ↓reduceIte, Nat.reduceEqDiff, Nat.reduceAdd, Nat.reduceSub, Nat.reduceMul, Nat.reduceLeDiff, Nat.reduceLT, Int.reduceLT, Int.reduceLE, Int.reduceEq, Int.reduceToNat, reduceCtorEq, FB, List.length_append, List.length_cons, List.length_nil, List.map_append, List.map_cons, List.map_nil, cI, cS, List.cons_append, List.nil_append, List.append_assoc, Nat.add_assoc, Nat.add_comm 1, satsF, hg]
      exact i1
  have hw : IntKind.wrap .i64 ((p.Processes.length : Int) - 1) = (p.Processes.length : Int) - 1 := wrapI (by omega) (by omega)
  have hw2 : IntKind.wrap .i64 ((p.Monitors.length : Int) - 1) = (p.Monitors.length : Int) - 1 := wrapI (by omega) (by omega)
  rw [sg_spec_EntryPlaces, sem_go]
  by_cases hk : 0 ≤ kk ∧ kk ≤ (p.Processes.length : Int) - 1
  · by_cases hm : 0 ≤ mm ∧ mm ≤ (p.Monitors.length : Int) - 1
    · obtain ⟨m, rfl⟩ : ∃ n : Nat, mm = (n : Int) := ⟨mm.toNat, by omega⟩
      have hmn : m < p.Monitors.length := by omega
      have hmn' : (m : Int) < (p.Monitors.length : Int) := by omega
      have hE1 := hE _ (List.getElem_mem hmn)
      have hw3 : IntKind.wrap .i64 ((p.Monitors[m].Entries.length : Int) - 1) = (p.Monitors[m].Entries.length : Int) - 1 := wrapI (by omega) (by omega)
      by_cases he : 0 ≤ nn ∧ nn ≤ (p.Monitors[m].Entries.length : Int) - 1
      · obtain ⟨n, rfl⟩ : ∃ n : Nat, nn = (n : Int) := ⟨nn.toNat, by omega⟩
        have hen : n < p.Monitors[m].Entries.length := by omega
        have hen' : (n : Int) < (p.Monitors[m].Entries.length : Int) := by omega
        have ha := sem_spec_ArgAt p kk hM hP hV hQ
        have hr := sem_spec_ResultAt p kk hM hP hV hQ
        have e : entryPlaces p kk m n = ⟨[p.Monitors[m].Entries[n].Param, ⟨#[114, 101, 115, 117, 108, 116]⟩] ++ p.Monitors[m].Vars, [argAt p kk, resultAt p kk] ++ satsF p m p.Monitors[m].Vars 0⟩ := by
          unfold entryPlaces; rw [Int.toNat_natCast, ents_eq hmn, if_pos ⟨hk, hm, he⟩, Int.toNat_natCast, param_eq hmn hen, mvars_eq hmn]; rfl
        have hl := loop m hmn [p.Monitors[m].Entries[n].Param, ⟨#[114, 101, 115, 117, 108, 116]⟩] [argAt p kk, resultAt p kk] rfl rfl
        rw [e]
        generalize ([p.Monitors[m].Entries[n].Param, ⟨#[114, 101, 115, 117, 108, 116]⟩] ++ p.Monitors[m].Vars : List ByteArray) = N at hl ⊢
        generalize ([argAt p kk, resultAt p kk] ++ satsF p m p.Monitors[m].Vars 0 : List Int) = A at hl ⊢
        simp only [cProgram, EG, EL, ↓reduceIte, Nat.reduceEqDiff, Nat.reduceAdd, Nat.reduceSub, Nat.reduceMul, Nat.reduceLeDiff, Nat.reduceLT, Int.reduceLT, Int.reduceLE, Int.reduceEq, Int.reduceToNat, reduceCtorEq, FB, List.length_cons, List.length_nil, List.map_cons, List.map_nil, cI, cS] at hl
        simp only [cProgram] at ha hr
        simp (maxSteps := 10000000) (disch := first | assumption | omega) only [cProgram, F_spec_EntryPlaces, params, EG, EL, ↓reduceIte, Nat.reduceEqDiff, Nat.reduceAdd, Nat.reduceSub, Nat.reduceMul, Nat.reduceLeDiff, Nat.reduceLT, Int.reduceLT, Int.reduceLE, Int.reduceEq, Int.reduceToNat, reduceCtorEq, FB, ED, FT, cx_spec_EntryPlaces, cl_spec_l01In, sem_spec_l01In, cl_spec_ArgAt, ha, cl_spec_ResultAt, hr, hw, hw2, hw3, hk, hm, he, hmn', hen', getRow _ _ hmn, getRow _ _ hen, hl, decide_true, decide_false, Bool.not_true, Bool.not_false, Bool.true_and, Bool.false_and, Bool.and_true, Bool.and_false, Bool.true_or, Bool.false_or, and_self]
      · have e : entryPlaces p kk m nn = ⟨[], []⟩ := by unfold entryPlaces; rw [Int.toNat_natCast, ents_eq hmn, if_neg (fun h => he h.2.2)]
        rw [e]
        simp (maxSteps := 10000000) (disch := first | assumption | omega) only [cProgram, F_spec_EntryPlaces, params, EG, EL, ↓reduceIte, Nat.reduceEqDiff, Nat.reduceAdd, Nat.reduceSub, Nat.reduceMul, Nat.reduceLeDiff, Nat.reduceLT, Int.reduceLT, Int.reduceLE, Int.reduceEq, Int.reduceToNat, reduceCtorEq, FB, ED, FT, cx_spec_EntryPlaces, cl_spec_l01In, sem_spec_l01In, hw, hw2, hw3, hk, hm, he, hmn', getRow _ _ hmn, decide_true, decide_false, Bool.not_true, Bool.not_false, Bool.true_and, Bool.false_and, Bool.and_true, Bool.and_false, Bool.true_or, Bool.false_or, and_self]
        try rfl
    · have e : entryPlaces p kk mm nn = ⟨[], []⟩ := by unfold entryPlaces; rw [if_neg (fun h => hm h.2.1)]
      rw [e]
      simp (maxSteps := 10000000) (disch := first | assumption | omega) only [cProgram, F_spec_EntryPlaces, params, EG, EL, ↓reduceIte, Nat.reduceEqDiff, Nat.reduceAdd, Nat.reduceSub, Nat.reduceMul, Nat.reduceLeDiff, Nat.reduceLT, Int.reduceLT, Int.reduceLE, Int.reduceEq, Int.reduceToNat, reduceCtorEq, FB, ED, FT, cx_spec_EntryPlaces, cl_spec_l01In, sem_spec_l01In, hw, hw2, hk, hm, decide_true, decide_false, Bool.not_true, Bool.not_false, Bool.true_and, Bool.false_and, Bool.and_true, Bool.and_false, Bool.true_or, Bool.false_or, and_self]
      try rfl
  · have e : entryPlaces p kk mm nn = ⟨[], []⟩ := by unfold entryPlaces; rw [if_neg (fun h => hk h.1)]
    rw [e]
    simp (maxSteps := 10000000) (disch := first | assumption | omega) only [cProgram, F_spec_EntryPlaces, params, EG, EL, ↓reduceIte, Nat.reduceEqDiff, Nat.reduceAdd, Nat.reduceSub, Nat.reduceMul, Nat.reduceLeDiff, Nat.reduceLT, Int.reduceLT, Int.reduceLE, Int.reduceEq, Int.reduceToNat, reduceCtorEq, FB, ED, FT, cx_spec_EntryPlaces, cl_spec_l01In, sem_spec_l01In, hw, hk, decide_true, decide_false, Bool.not_true, Bool.not_false, Bool.true_and, Bool.false_and, Bool.and_true, Bool.and_false, Bool.true_or, Bool.false_or, and_self]
    try rfl
set_option maxHeartbeats 4000000 in
theorem sem_impl_EntryPlaces (p : DProgram) (kk mm nn : Int) (hM : p.Monitors.length ≤ 1048576) (hP : p.Processes.length ≤ 1048576) (hV : tot nV p.Monitors ≤ 1048576) (hQ : tot nP p.Processes ≤ 4194304) (hE : ∀ y ∈ p.Monitors, y.Entries.length ≤ 1048576) : S_impl_EntryPlaces.sem [.agg (cProgram p), .int .i64 kk, .int .i64 mm, .int .i64 nn] = some (.agg (cPlaces (entryPlaces p kk mm nn)), []) := by
  have loop : ∀ (m : Nat) (hk : m < p.Monitors.length) (n0 : List ByteArray) (a0 : List Int), n0.length = 2 → a0.length = 2 → loopV X_impl_EntryPlaces 0 [2, 4, 8, 9, 60, 61, 62] [(1, [8, 9])] B0_impl_EntryPlaces ⟨[(2, .int .i64 ((m : Nat) : Int)), (4, .ptr ⟨0, none, 0⟩ 3 0 0), (8, .ptr ⟨1, none, 0⟩ 2 0 0), (9, .ptr ⟨4, none, 0⟩ 2 0 0), (60, .tree 1 (p.Monitors[m].Vars.map cS)), (61, .int .i64 p.Monitors[m].Vars.length), (62, .int .i64 0)], [some ⟨true, 0, 3, [cProgram p]⟩, some ⟨true, 0, 2, [[.sl ⟨2, none, 0⟩ 1 0 0, .sl ⟨3, none, 0⟩ 1 0 0]]⟩, some ⟨false, 0, 1, []⟩, some ⟨false, 0, 1, []⟩, some ⟨true, 0, 2, [[.sl ⟨5, none, 0⟩ 1 0 n0.length, .sl ⟨6, none, 0⟩ 1 0 a0.length]]⟩, some ⟨false, 0, 1, n0.map cS⟩, some ⟨false, 0, 1, a0.map cI⟩]⟩ = some (.exit 0, ⟨[(8, .ptr ⟨0, none, 0⟩ 2 0 0), (9, .ptr ⟨3, none, 0⟩ 2 0 0)], [some ⟨true, 0, 2, [[.sl ⟨1, none, 0⟩ 1 0 0, .sl ⟨2, none, 0⟩ 1 0 0]]⟩, some ⟨false, 0, 1, []⟩, some ⟨false, 0, 1, []⟩, some ⟨true, 0, 2, [[.sl ⟨4, none, 0⟩ 1 0 (n0 ++ p.Monitors[m].Vars).length, .sl ⟨5, none, 0⟩ 1 0 (a0 ++ satsF p m p.Monitors[m].Vars 0).length]]⟩, some ⟨false, 0, 1, (n0 ++ p.Monitors[m].Vars).map cS⟩, some ⟨false, 0, 1, (a0 ++ satsF p m p.Monitors[m].Vars 0).map cI⟩]⟩) := by
    intro m hk n0 a0 hn0 ha0
    have hk' : (m : Int) < (p.Monitors.length : Int) := by omega
    have hlp := nV_lt hk
    rw [show satsF p m p.Monitors[m].Vars 0 = satsF p m p.Monitors[m].Vars (n0.length - 2) by rw [hn0]]
    refine loop_list p.Monitors[m].Vars (fun i (a : List ByteArray × List Int) => a.1.length = i + 2 ∧ a.2.length = i + 2) (fun i a => ⟨[(2, .int .i64 ((m : Nat) : Int)), (4, .ptr ⟨0, none, 0⟩ 3 0 0), (8, .ptr ⟨1, none, 0⟩ 2 0 0), (9, .ptr ⟨4, none, 0⟩ 2 0 0), (60, .tree 1 (p.Monitors[m].Vars.map cS)), (61, .int .i64 p.Monitors[m].Vars.length), (62, .int .i64 ((i : Nat) : Int))], [some ⟨true, 0, 3, [cProgram p]⟩, some ⟨true, 0, 2, [[.sl ⟨2, none, 0⟩ 1 0 0, .sl ⟨3, none, 0⟩ 1 0 0]]⟩, some ⟨false, 0, 1, []⟩, some ⟨false, 0, 1, []⟩, some ⟨true, 0, 2, [[.sl ⟨5, none, 0⟩ 1 0 a.1.length, .sl ⟨6, none, 0⟩ 1 0 a.2.length]]⟩, some ⟨false, 0, 1, a.1.map cS⟩, some ⟨false, 0, 1, a.2.map cI⟩]⟩) (fun rest a => some (.exit 0, ⟨[(8, .ptr ⟨0, none, 0⟩ 2 0 0), (9, .ptr ⟨3, none, 0⟩ 2 0 0)], [some ⟨true, 0, 2, [[.sl ⟨1, none, 0⟩ 1 0 0, .sl ⟨2, none, 0⟩ 1 0 0]]⟩, some ⟨false, 0, 1, []⟩, some ⟨false, 0, 1, []⟩, some ⟨true, 0, 2, [[.sl ⟨4, none, 0⟩ 1 0 (a.1 ++ rest).length, .sl ⟨5, none, 0⟩ 1 0 (a.2 ++ satsF p m rest (a.1.length - 2)).length]]⟩, some ⟨false, 0, 1, (a.1 ++ rest).map cS⟩, some ⟨false, 0, 1, (a.2 ++ satsF p m rest (a.1.length - 2)).map cI⟩]⟩)) ?_ ?_ (n0, a0) ⟨hn0, ha0⟩
    · rintro ⟨ns, as2⟩ _
      rw [loopV_by B0_impl_EntryPlaces.eq_1]
      simp only [cProgram, EG, EL, ↓reduceIte, Nat.reduceEqDiff, Nat.reduceAdd, Nat.reduceSub, Nat.reduceMul, Nat.reduceLeDiff, Nat.reduceLT, Int.reduceLT, Int.reduceLE, Int.reduceEq, Int.reduceToNat, reduceCtorEq, FB, hk', getRow _ _ hk, int_lt_irrefl, satsF, List.append_nil]
    · rintro i hi0 y rest ⟨ns, as2⟩ rfl rfl ⟨h1, h2⟩ ih
      simp only at h1 h2
      have hi : ((i : Nat) : Int) < (p.Monitors[m].Vars.length : Int) := by omega
      have hc1 : (ns.length + 1) * 16 ≤ 70368744177664 := by omega
      have hc2 : (as2.length + 1) * 8 ≤ 70368744177664 := by omega
      have hva := sem_impl_SharedAt p m ((i : Nat) : Int) hM hV
      have i1 := ih (ns ++ [p.Monitors[m].Vars[i]], as2 ++ [sharedAt p m i]) (by simp; omega)
      have hx1 : (ns ++ [p.Monitors[m].Vars[i]]).length - 2 = i + 1 := by simp; omega
      have hx2 : ns.length - 2 = i := by omega
      simp only [hx1] at i1
      simp only [hx2]
      generalize hg : sharedAt p m i = v at i1 hva
      simp only [cProgram, EG, EL, ↓reduceIte, Nat.reduceEqDiff, Nat.reduceAdd, Nat.reduceSub, Nat.reduceMul, Nat.reduceLeDiff, Nat.reduceLT, Int.reduceLT, Int.reduceLE, Int.reduceEq, Int.reduceToNat, reduceCtorEq, FB, List.length_append, List.length_cons, List.length_nil, List.map_append, List.map_cons, List.map_nil, cI, cS, List.cons_append, List.nil_append, List.append_assoc, Nat.add_assoc, Nat.add_comm 1] at i1
      simp only [cProgram] at hva
      rw [loopV_by B0_impl_EntryPlaces.eq_1]
      simp (maxSteps := 10000000) (disch := first | assumption | omega) only [cProgram, EG, EL, ↓reduceIte, Nat.reduceEqDiff, Nat.reduceAdd, Nat.reduceSub, Nat.reduceMul, Nat.reduceLeDiff, Nat.reduceLT, Int.reduceLT, Int.reduceLE, Int.reduceEq, Int.reduceToNat, reduceCtorEq, FB, ED, FT, hk', hi, wrap_succ, getRow _ _ hk, getRow _ _ hi0, hc1, hc2, cx_impl_EntryPlaces, cl_impl_SharedAt, hva]
      try simp only [EG, EL, ↓reduceIte, Nat.reduceEqDiff, Nat.reduceAdd, Nat.reduceSub, Nat.reduceMul, Nat.reduceLeDiff, Nat.reduceLT, Int.reduceLT, Int.reduceLE, Int.reduceEq, Int.reduceToNat, reduceCtorEq, FB, List.length_append, List.length_cons, List.length_nil, List.map_append, List.map_cons, List.map_nil, cI, cS, List.cons_append, List.nil_append, List.append_assoc, Nat.add_assoc, Nat.add_comm 1, satsF, hg]
      exact i1
  have hw : IntKind.wrap .i64 ((p.Processes.length : Int) - 1) = (p.Processes.length : Int) - 1 := wrapI (by omega) (by omega)
  have hw2 : IntKind.wrap .i64 ((p.Monitors.length : Int) - 1) = (p.Monitors.length : Int) - 1 := wrapI (by omega) (by omega)
  have hip := sem_impl_isProcess p kk hP
  have him := sem_impl_isMonitor p mm hM
  simp only [cProgram] at hip him
  rw [sg_impl_EntryPlaces, sem_go]
  by_cases hk : 0 ≤ kk ∧ kk ≤ (p.Processes.length : Int) - 1
  · by_cases hm : 0 ≤ mm ∧ mm ≤ (p.Monitors.length : Int) - 1
    · obtain ⟨m, rfl⟩ : ∃ n : Nat, mm = (n : Int) := ⟨mm.toNat, by omega⟩
      have hmn : m < p.Monitors.length := by omega
      have hmn' : (m : Int) < (p.Monitors.length : Int) := by omega
      have hE1 := hE _ (List.getElem_mem hmn)
      have hw3 : IntKind.wrap .i64 ((p.Monitors[m].Entries.length : Int) - 1) = (p.Monitors[m].Entries.length : Int) - 1 := wrapI (by omega) (by omega)
      by_cases he : 0 ≤ nn ∧ nn ≤ (p.Monitors[m].Entries.length : Int) - 1
      · obtain ⟨n, rfl⟩ : ∃ n : Nat, nn = (n : Int) := ⟨nn.toNat, by omega⟩
        have hen : n < p.Monitors[m].Entries.length := by omega
        have hen' : (n : Int) < (p.Monitors[m].Entries.length : Int) := by omega
        have ha := sem_impl_ArgAt p kk hM hP hV hQ
        have hr := sem_impl_ResultAt p kk hM hP hV hQ
        have e : entryPlaces p kk m n = ⟨[p.Monitors[m].Entries[n].Param, ⟨#[114, 101, 115, 117, 108, 116]⟩] ++ p.Monitors[m].Vars, [argAt p kk, resultAt p kk] ++ satsF p m p.Monitors[m].Vars 0⟩ := by
          unfold entryPlaces; rw [Int.toNat_natCast, ents_eq hmn, if_pos ⟨hk, hm, he⟩, Int.toNat_natCast, param_eq hmn hen, mvars_eq hmn]; rfl
        have hl := loop m hmn [p.Monitors[m].Entries[n].Param, ⟨#[114, 101, 115, 117, 108, 116]⟩] [argAt p kk, resultAt p kk] rfl rfl
        rw [e]
        generalize ([p.Monitors[m].Entries[n].Param, ⟨#[114, 101, 115, 117, 108, 116]⟩] ++ p.Monitors[m].Vars : List ByteArray) = N at hl ⊢
        generalize ([argAt p kk, resultAt p kk] ++ satsF p m p.Monitors[m].Vars 0 : List Int) = A at hl ⊢
        simp only [cProgram, EG, EL, ↓reduceIte, Nat.reduceEqDiff, Nat.reduceAdd, Nat.reduceSub, Nat.reduceMul, Nat.reduceLeDiff, Nat.reduceLT, Int.reduceLT, Int.reduceLE, Int.reduceEq, Int.reduceToNat, reduceCtorEq, FB, List.length_cons, List.length_nil, List.map_cons, List.map_nil, cI, cS] at hl
        simp only [cProgram] at ha hr
        simp (maxSteps := 10000000) (disch := first | assumption | omega) only [cProgram, F_impl_EntryPlaces, params, EG, EL, ↓reduceIte, Nat.reduceEqDiff, Nat.reduceAdd, Nat.reduceSub, Nat.reduceMul, Nat.reduceLeDiff, Nat.reduceLT, Int.reduceLT, Int.reduceLE, Int.reduceEq, Int.reduceToNat, reduceCtorEq, FB, ED, FT, cx_impl_EntryPlaces, cl_impl_within, sem_impl_within, cl_impl_isProcess, hip, cl_impl_isMonitor, him, cl_impl_ArgAt, ha, cl_impl_ResultAt, hr, hw, hw2, hw3, hk, hm, he, hmn', hen', getRow _ _ hmn, getRow _ _ hen, hl, decide_true, decide_false, Bool.not_true, Bool.not_false, Bool.true_and, Bool.false_and, Bool.and_true, Bool.and_false, Bool.true_or, Bool.false_or, and_self]
      · have e : entryPlaces p kk m nn = ⟨[], []⟩ := by unfold entryPlaces; rw [Int.toNat_natCast, ents_eq hmn, if_neg (fun h => he h.2.2)]
        rw [e]
        simp (maxSteps := 10000000) (disch := first | assumption | omega) only [cProgram, F_impl_EntryPlaces, params, EG, EL, ↓reduceIte, Nat.reduceEqDiff, Nat.reduceAdd, Nat.reduceSub, Nat.reduceMul, Nat.reduceLeDiff, Nat.reduceLT, Int.reduceLT, Int.reduceLE, Int.reduceEq, Int.reduceToNat, reduceCtorEq, FB, ED, FT, cx_impl_EntryPlaces, cl_impl_within, sem_impl_within, cl_impl_isProcess, hip, cl_impl_isMonitor, him, hw, hw2, hw3, hk, hm, he, hmn', getRow _ _ hmn, decide_true, decide_false, Bool.not_true, Bool.not_false, Bool.true_and, Bool.false_and, Bool.and_true, Bool.and_false, Bool.true_or, Bool.false_or, and_self]
        try rfl
    · have e : entryPlaces p kk mm nn = ⟨[], []⟩ := by unfold entryPlaces; rw [if_neg (fun h => hm h.2.1)]
      rw [e]
      simp (maxSteps := 10000000) (disch := first | assumption | omega) only [cProgram, F_impl_EntryPlaces, params, EG, EL, ↓reduceIte, Nat.reduceEqDiff, Nat.reduceAdd, Nat.reduceSub, Nat.reduceMul, Nat.reduceLeDiff, Nat.reduceLT, Int.reduceLT, Int.reduceLE, Int.reduceEq, Int.reduceToNat, reduceCtorEq, FB, ED, FT, cx_impl_EntryPlaces, cl_impl_within, sem_impl_within, cl_impl_isProcess, hip, cl_impl_isMonitor, him, hw, hw2, hk, hm, decide_true, decide_false, Bool.not_true, Bool.not_false, Bool.true_and, Bool.false_and, Bool.and_true, Bool.and_false, Bool.true_or, Bool.false_or, and_self]
      try rfl
  · have e : entryPlaces p kk mm nn = ⟨[], []⟩ := by unfold entryPlaces; rw [if_neg (fun h => hk h.1)]
    rw [e]
    simp (maxSteps := 10000000) (disch := first | assumption | omega) only [cProgram, F_impl_EntryPlaces, params, EG, EL, ↓reduceIte, Nat.reduceEqDiff, Nat.reduceAdd, Nat.reduceSub, Nat.reduceMul, Nat.reduceLeDiff, Nat.reduceLT, Int.reduceLT, Int.reduceLE, Int.reduceEq, Int.reduceToNat, reduceCtorEq, FB, ED, FT, cx_impl_EntryPlaces, cl_impl_within, sem_impl_within, cl_impl_isProcess, hip, cl_impl_isMonitor, him, hw, hk, decide_true, decide_false, Bool.not_true, Bool.not_false, Bool.true_and, Bool.false_and, Bool.and_true, Bool.and_false, Bool.true_or, Bool.false_or, and_self]
    try rfl
set_option maxHeartbeats 4000000 in
theorem law_FnExactEntryPlaces (p : DProgram) (g_p : gdProgram p) (k : Int) (g_k : i64 k) (m : Int) (g_m : i64 m) (n : Int) (g_n : i64 n) : tru F_laws_FnExactEntryPlaces.res (go X_laws_FnExactEntryPlaces 0 [.c F_laws_FnExactEntryPlaces.body] ⟨params 0 [.agg (cProgram p), .int .i64 k, .int .i64 m, .int .i64 n], []⟩) := by
  rcases lft_or (1048576) (wtProgram p) with ⟨e0, f0⟩ | ⟨e0, f0⟩
  · simp (maxSteps := 10000000) (disch := first | assumption | omega) only [F_laws_FnExactEntryPlaces, params, EG, EL, ↓reduceIte, Nat.reduceEqDiff, Nat.reduceAdd, Nat.reduceSub, Nat.reduceMul, Nat.reduceLeDiff, Nat.reduceLT, Int.reduceLT, Int.reduceLE, Int.reduceEq, Int.reduceToNat, reduceCtorEq, ED, FB, FT, tru_ret, tru_ite, cx_laws_FnExactEntryPlaces, e0, neg1_lt, cl_laws_szProgram, sem_laws_szProgram, cl_laws_toProgram, sem_laws_toProgram, cl_spec_EntryPlaces, sem_spec_EntryPlaces, cl_impl_EntryPlaces, sem_impl_EntryPlaces, cl_laws_eqPlaces, sem_laws_eqPlaces, cl_laws_eqProgram, sem_laws_eqProgram, cl_laws_markProgram, run_goF, F_laws_markProgram, cx_laws_markProgram, cl_laws_markNodeS, sem_laws_markNodeS, cl_laws_markMonitorS, sem_laws_markMonitorS, cl_laws_markProcessS, sem_laws_markProcessS, cl_laws_markPlaces, F_laws_markPlaces, cx_laws_markPlaces, cl_laws_markStringS, sem_laws_markStringS, cl_laws_markIntS, sem_laws_markIntS, cl_laws_heldPlaces, sem_laws_heldPlaces]
  have c0 : ¬ 1048576 - ((wtProgram p : Nat) : Int) < 0 := by omega
  have w0 := f0
  simp only [wtProgram] at w0
  have q0_0 := tctle_Node p.Nodes
  have q0_1 := tctle_Monitor p.Monitors
  have q0_2 := tctle_Process p.Processes
  have hV := Nat.le_trans (@tot_nV p.Monitors) (show tot wtMonitor p.Monitors ≤ 1048576 by omega)
  have hQ := Nat.le_trans (@tot_nP p.Processes) (show tot wtProcess p.Processes + 2 * p.Processes.length ≤ 4194304 by omega)
  have hE : ∀ y ∈ p.Monitors, y.Entries.length ≤ 1048576 := fun y hy => by have := le_tot wtMonitor hy; have h2 : wtMonitor y = y.Name.size + (y.Vars.length + tot wtS y.Vars) + (y.Queues.length + tot wtS y.Queues) + (y.Entries.length + tot wtEntry y.Entries) := rfl; omega
  have hr0 : wtPlaces (entryPlaces p k m n) ≤ 1073741824 := by
    have := @entryPlaces_wt p k m n
    omega
  have hu0 := hr0
  simp only [wtPlaces] at hu0
  have r0_0 := tot_ct1 (entryPlaces p k m n).Names
  have r0_1 := tot_ct1 (entryPlaces p k m n).Ats
  have rc0 : cwPlaces (entryPlaces p k m n) = tot ct1 (entryPlaces p k m n).Names + tot ct1 (entryPlaces p k m n).Ats := rfl
  simp (maxSteps := 10000000) (disch := first | assumption | omega) only [F_laws_FnExactEntryPlaces, params, EG, EL, ↓reduceIte, Nat.reduceEqDiff, Nat.reduceAdd, Nat.reduceSub, Nat.reduceMul, Nat.reduceLeDiff, Nat.reduceLT, Int.reduceLT, Int.reduceLE, Int.reduceEq, Int.reduceToNat, reduceCtorEq, ED, FB, FT, tru_ret, tru_ite, cx_laws_FnExactEntryPlaces, e0, c0, cl_laws_szProgram, sem_laws_szProgram, cl_laws_toProgram, sem_laws_toProgram, cl_spec_EntryPlaces, sem_spec_EntryPlaces, cl_impl_EntryPlaces, sem_impl_EntryPlaces, cl_laws_eqPlaces, sem_laws_eqPlaces, cl_laws_eqProgram, sem_laws_eqProgram, cl_laws_markProgram, run_goF, F_laws_markProgram, cx_laws_markProgram, cl_laws_markNodeS, sem_laws_markNodeS, cl_laws_markMonitorS, sem_laws_markMonitorS, cl_laws_markProcessS, sem_laws_markProcessS, cl_laws_markPlaces, F_laws_markPlaces, cx_laws_markPlaces, cl_laws_markStringS, sem_laws_markStringS, cl_laws_markIntS, sem_laws_markIntS, cl_laws_heldPlaces, sem_laws_heldPlaces]
  repeat (first | rw [if_neg (by omega)] | rw [if_pos (by omega)])
  try trivial

end Go.Proofs.Ytfecgljlnfoheaa.AI
